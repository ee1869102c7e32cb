/- The walk of HistVanish. No condition. -/
import Derived.Test.YteokjobkjmibfaaVw
namespace Go.Proofs.Yteokjobkjmibfaa
open Go.RowKit Go.Maps

theorem comE_ok (j : Nat) (wa : Option Addr) (hj : j ≤ 100) : (comE j wa).ok := ok_small (by simp [comE]; omega)
theorem comE_good {w : World} {b j : Nat} (hB : Blk w b #[.int .i64 ((j : Int) + 1), .int .u64 0, .string (oneStr ((j : Int) + 1))] 29) (hj : j ≤ 100) : Good w (comE j (some ⟨b, 0, none⟩)) :=
  ⟨⟨imgs_nil _ _, imgs_blk (i := ⟨(j : Int) + 1, 0, oneStr ((j : Int) + 1)⟩) hB ⟨wf64_of (by simp; omega) (by simp; omega), wfu64_of (by simp) (by simp), by rw [oneStr_size]; omega⟩⟩, Ty.none_ _, Ty.of hB⟩

theorem rdE_ok (n : Int) (ra : Option Addr) : (rdE n ra).ok := ok_small (by simp [rdE])
theorem rdE_good {w : World} {b : Nat} {n : Int} (hB : Blk w b #[.int .i64 n, .int .u64 0, .string (oneStr n)] 29) (hn : wf64 n) : Good w (rdE n (some ⟨b, 0, none⟩)) :=
  ⟨⟨imgs_blk (i := ⟨n, 0, oneStr n⟩) hB ⟨hn, wfu64_of (by simp) (by simp), by rw [oneStr_size]; omega⟩, imgs_nil _ _⟩, Ty.of hB, Ty.none_ _⟩
theorem oF_ok (n : Int) (S : Str) (ra : Option Addr) : (oF n S ra).ok := ok_small (by simp [oF])
theorem oF_good {w : World} {b : Nat} {n : Int} {S : Str} (hB : Blk w b #[.int .i64 n, .int .u64 0, .string S] 29) (hn : wf64 n) (hs : S.size ≤ 1000000) : Good w (oF n S (some ⟨b, 0, none⟩)) :=
  ⟨⟨imgs_blk (i := ⟨n, 0, S⟩) hB ⟨hn, wfu64_of (by simp) (by simp), hs⟩, imgs_nil _ _⟩, Ty.of hB, Ty.none_ _⟩
theorem synE_ok (s : Int) (h0 : 0 ≤ s) (h1 : s ≤ 100) : (synE s).ok := ok_small (by simp [synE]; omega)
theorem goneE_ok : goneE.ok := ok_small (by simp [goneE])

theorem six_blk {w : World} {b : Nat} {e : Ev} {cs : Array Value} (hB : Blk w b cs 32) (hcs : cs = e.six.toArray) : ∀ r, r < 6 → w.cell? ⟨b, r, none⟩ = e.six[r]? := fun r hr => by
  subst hcs
  have : (e.six.toArray)[r]? = e.six[r]? := by simp
  rw [← this]
  match r, hr with
  | 0, _ => exact hB.cell 0 rfl
  | 1, _ => exact hB.cell 1 rfl
  | 2, _ => exact hB.cell 2 rfl
  | 3, _ => exact hB.cell 3 rfl
  | 4, _ => exact hB.cell 4 rfl
  | 5, _ => exact hB.cell 5 rfl

/-- what is known behind append(nil, l...) -/
structure Cop (w W w8 : World) (a8 : Option Addr) (cap8 : Nat) (L : List Ev) : Prop where
  hold : Hold w w8 a8 cap8 L
  chg : Chg [] W w8
  new : ∀ g, blkOf a8 = some g → W.heap.size ≤ g
theorem Hold.cop {w W wn w' : World} {a a' : Option Addr} {cap cap' : Nat} {L : List Ev} (h : Hold w W a cap L) (hc : Chg [] W wn) (ho : OwnE w' a' cap' L) (hg : wn.grownBy w' none) (hat : blkOf a' = some wn.heap.size) : Cop w W w' a' cap' L := by
  obtain ⟨h1, h2⟩ := (h.chg0 hc).copy ho hg hat
  exact ⟨h1, hc.step h2 (by simp), fun g hg' => by rw [hat] at hg'; cases hg'; exact hc.size⟩
theorem Cop.chg0 {w W w8 wn : World} {a8 : Option Addr} {cap8 : Nat} {L : List Ev} (h : Cop w W w8 a8 cap8 L) (hc : Chg [] w8 wn) : Cop w W wn a8 cap8 L := ⟨h.hold.chg0 hc, h.chg.step hc (by simp), h.new⟩

/-- what is known behind the second append -/
def Fin (w W w9 : World) (a9 : Option Addr) (cap9 : Nat) (L : List Ev) (n : Int) (S : Str) : Prop := ∃ fa, Hold w w9 a9 cap9 (L ++ [oF n S fa]) ∧ Chg [] W w9
theorem Cop.fin {w W wn w' : World} {a a' : Option Addr} {cap cap' : Nat} {L : List Ev} {n : Int} {S : Str} {b : Nat} (h : Cop w W wn a cap L) (hB : Blk wn b #[.int .i64 n, .int .u64 0, .string S] 29) (hn : wf64 n) (hs : S.size ≤ 1000000)
    (ho : OwnE w' a' cap' (L ++ [oF n S (some ⟨b, 0, none⟩)])) (hg : wn.grownBy w' (blkOf a)) (hat : blkOf a' = blkOf a ∨ blkOf a' = some wn.heap.size) : Fin w W w' a' cap' L n S :=
  ⟨_, h.hold.append (oF_good hB hn hs) ho hg hat, h.chg.grown hg (fun k hk => .inr (h.new k hk))⟩
theorem Fin.chg' {w W w9 : World} {a9 : Option Addr} {cap9 : Nat} {L : List Ev} {n : Int} {S : Str} (h : Fin w W w9 a9 cap9 L n S) : Chg [] W w9 := by obtain ⟨_, _, h⟩ := h; exact h
theorem Fin.judge {w W w9 : World} {a9 : Option Addr} {cap9 : Nat} {P : List Ev} {g : Ev} {Q : List Ev} {n : Int} {S : Str} (h : Fin w W w9 a9 cap9 Q n S) (hQ : P ++ [g] = Q) {m : Nat} (hm : Q.length = m) (hl : m ≤ 100) {r : Bool} (hj : ∀ fa, cutsErr (P ++ [g, oF n S fa]) = 0 ∧ judgeOk (P ++ [g, oF n S fa]) = r) :
    Calls Try.prog 8 #[.slice a9 (m + 1) cap9] w9 fun e w' => e = .returned (.tuple #[.bool r, .int .i64 0]) ∧ Chg [] W w' := by
  obtain ⟨fa, hH, hC⟩ := h
  have hj' := hj fa
  rw [show P ++ [g, oF n S fa] = Q ++ [oF n S fa] by rw [← hQ, List.append_assoc]; rfl] at hj'
  exact (judge_hold hH (by rw [List.length_append, hm]; simp; omega) (n := m + 1) (by rw [List.length_append, hm]; rfl) hj').mono fun e w' ⟨he, hb⟩ => ⟨he, hC.ofBelow hb⟩

set_option maxHeartbeats 2000000 in
set_option maxRecDepth 1000000 in
theorem van_any (w : World) (n s : Int) (read : Bool) (hn : wf64 n) (hs : wf64 s) : Calls Try.prog 4 #[.int .i64 n, .int .i64 s, .bool read] w fun e w' => e = .returned (.bool true) ∧ Below w.heap.size w w' := by
  have hrn := range64 hn
  have hrs := range64 hs
  by_cases h0 : n < 1
  · go_enter Try.func4, Try.ntmps4
    go_wp2_with fail
    refine (alive_any _).mono ?_
    rintro e w1 ⟨rfl, hb1⟩
    go_wp2_with fail
    go_ret
    exact ⟨rfl, hb1⟩
  by_cases h1 : 20 < n
  · go_enter Try.func4, Try.ntmps4
    go_wp2_with fail
    refine (alive_any _).mono ?_
    rintro e w1 ⟨rfl, hb1⟩
    go_wp2_with fail
    go_ret
    exact ⟨rfl, hb1⟩
  by_cases h2 : s < 0
  · go_enter Try.func4, Try.ntmps4
    go_wp2_with fail
    refine (alive_any _).mono ?_
    rintro e w1 ⟨rfl, hb1⟩
    go_wp2_with fail
    go_ret
    exact ⟨rfl, hb1⟩
  by_cases h3 : n < s
  · go_enter Try.func4, Try.ntmps4
    go_wp2_with fail
    refine (alive_any _).mono ?_
    rintro e w1 ⟨rfl, hb1⟩
    go_wp2_with fail
    go_ret
    exact ⟨rfl, hb1⟩
  obtain ⟨N, rfl⟩ := Int.eq_ofNat_of_zero_le (by omega : 0 ≤ n)
  have g1 : 1 ≤ N := by omega
  have g2 : N ≤ 20 := by omega
  have g3 : 0 ≤ s := by omega
  have g4 : s ≤ (N : Int) := by omega
  clear hrn hrs
  go_enter Try.func4, Try.ntmps4
  go_wp2_with fail
  clear h0 h1 h2 h3
  go_loopg [7, 8] N (fun q s7 s8 wr => ∃ (k : Nat) (f : Nat → Option Addr) (a : Option Addr) (cap : Nat), k ≤ N ∧ q = N - k ∧ s8 = .int .i64 ((k : Int) + 1) ∧ s7 = .slice a k cap ∧ Hold w wr a cap (coms f k))
  case atStart => exact ⟨0, fun _ => none, none, 0, Nat.zero_le _, rfl, rfl, rfl, Hold.nil (Chg.refl _ _)⟩
  case round =>
    obtain ⟨k, f, a, cap, hk, rfl, rfl, rfl, hH⟩ := hrel
    have HLEN := Lib.hid (coms_length f k)
    by_cases hlt : k < N
    case pos =>
      have hlt2 : (k : Int) + 1 ≤ (N : Int) := by omega
      go_wp2_with fail
      refine (one_any _ _ _).mono ?_
      rintro e w4 ⟨rfl, hb4⟩
      have hH4 := hH.chg0 ((Chg.refl [] wr).ofBelow hb4)
      have hI := (Blk.new w4 #[.int .i64 ((k : Int) + 1), .int .u64 0, .string (oneStr ((k : Int) + 1))] 29).alloc (.cells #[.int .i64 1, .int .i64 1, .int .u64 4, .int .u64 ((k : Int) + 1), .slice none 0 0, .slice (some ⟨w4.heap.size, 0, none⟩) 1 1] 32)
      have hH5 := hH4.chg0 (((Chg.refl [] w4).alloc (.cells #[.int .i64 ((k : Int) + 1), .int .u64 0, .string (oneStr ((k : Int) + 1))] 29)).alloc (.cells #[.int .i64 1, .int .i64 1, .int .u64 4, .int .u64 ((k : Int) + 1), .slice none 0 0, .slice (some ⟨w4.heap.size, 0, none⟩) 1 1] 32))
      have hG := comE_good hI (by omega)
      have hsix := six_new (w4.alloc (.cells #[.int .i64 ((k : Int) + 1), .int .u64 0, .string (oneStr ((k : Int) + 1))] 29)) (comE k (some ⟨w4.heap.size, 0, none⟩))
      rw [World.size_alloc] at hsix
      have HH := Lib.hid hH5
      have HG := Lib.hid hG
      have HS := Lib.hid hsix
      clear hH hH4 hI hH5 hG hsix
      go_wp2_with (at_builtin; refine wpList_appendEn _ rfl _ _ rfl a cap k (coms f k) HLEN.out rfl HH.out.own (by rw [HLEN.out]; omega) (w4.heap.size + 1) 1 (comE k (some ⟨w4.heap.size, 0, none⟩)) (comE_ok k _ (by omega)) rfl HS.out ?_; intro a5 cap5 w5 hO6 hg6 hat6)
      have hH6 := HH.out.append HG.out hO6 hg6 hat6
      have HH6 := Lib.hid hH6
      clear hO6 hg6 hat6 hH6
      go_roundg (N - (k + 1))
      case measure => omega
      case rel => exact ⟨k + 1, fun j => if j = k then some ⟨w4.heap.size, 0, none⟩ else f j, a5, cap5, by omega, rfl, by go_num, rfl, by
        rw [coms_succ, coms_ext (f := fun j => if j = k then some ⟨w4.heap.size, 0, none⟩ else f j) (g := f) (fun j hj => if_neg (by omega)), if_pos rfl]
        exact HH6.out⟩
    case neg =>
      obtain rfl : k = N := by omega
      go_upto_if 45 with (fail)
      clear hk
      go_cut [7] (fun s7 wx => ∃ (a : Option Addr) (cap n : Nat), s7 = .slice a n cap ∧ (coms f k ++ if 0 < s then [synE s] else []).length = n ∧ Hold w wx a cap (coms f k ++ if 0 < s then [synE s] else []))
      case first =>
        by_cases hs0 : 0 < s
        case pos =>
          have hH5 := hH.chg0 ((Chg.refl [] wr).alloc (.cells #[.int .i64 2, .int .i64 1, .int .u64 4, .int .u64 s, .slice none 0 0, .slice none 0 0] 32))
          have hsix := six_new wr (synE s)
          have HH := Lib.hid hH5
          have HS := Lib.hid hsix
          have hs100 : s ≤ 100 := by omega
          clear hH hH5 hsix
          go_wp2_with (at_builtin; refine wpList_appendEn _ rfl _ _ rfl a cap k (coms f k) HLEN.out rfl HH.out.own (by rw [HLEN.out]; omega) wr.heap.size 1 (synE s) (synE_ok s g3 hs100) rfl HS.out ?_; intro a5 cap5 w5 hO6 hg6 hat6)
          have hH6 := HH.out.append (Good.plain _ _ _ _ _) hO6 hg6 hat6
          have HH6 := Lib.hid hH6
          clear hO6 hg6 hat6 hH6
          go_meet
          exact ⟨a5, cap5, k + 1, rfl, by rw [if_pos hs0, List.length_append, HLEN.out]; rfl, by rw [if_pos hs0]; exact HH6.out⟩
        case neg =>
          have HH := Lib.hid hH
          clear hH
          go_wp2_with fail
          go_meet
          exact ⟨a, cap, k, rfl, by rw [if_neg (show ¬ 0 < s by omega), List.append_nil]; exact HLEN.out, by rw [if_neg (show ¬ 0 < s by omega), List.append_nil]; exact HH.out⟩
      case rest =>
        obtain ⟨a2, cap2, n2, rfl, hl2, hH2⟩ := hcut
        clear hH
        have hn2 : n2 ≤ 22 := by
          rw [← hl2, List.length_append, HLEN.out]
          split <;> simp <;> omega
        obtain ⟨L2, hL2⟩ : ∃ L2, coms f k ++ (if 0 < s then [synE s] else []) = L2 := ⟨_, rfl⟩
        rw [hL2] at hl2 hH2
        have HL2 := Lib.hid hL2
        have HN2 := Lib.hid hl2
        clear hL2 hl2
        go_upto_if 52 with (fail)
        go_cut [7] (fun s7 wx => ∃ (a ra : Option Addr) (cap n : Nat), s7 = .slice a n cap ∧ (vanP f k s read ra).length = n ∧ Hold w wx a cap (vanP f k s read ra))
        case first =>
          cases read
          case true =>
            have hvp : ∀ ra, vanP f k s true ra = L2 ++ [rdE k ra] := fun ra => by unfold vanP; rw [if_pos (show true = true from rfl), HL2.out]
            have HVP := Lib.hid hvp
            clear hvp
            go_wp2_with fail
            refine (one_any _ _ _).mono ?_
            rintro e w4 ⟨rfl, hb4⟩
            have hH4 := hH2.chg0 ((Chg.refl [] _).ofBelow hb4)
            have hI := (Blk.new w4 #[.int .i64 (k : Int), .int .u64 0, .string (oneStr (k : Int))] 29).alloc (.cells #[.int .i64 1, .int .i64 2, .int .u64 5, .int .u64 1, .slice (some ⟨w4.heap.size, 0, none⟩) 1 1, .slice none 0 0] 32)
            have hH5 := hH4.chg0 (((Chg.refl [] w4).alloc (.cells #[.int .i64 (k : Int), .int .u64 0, .string (oneStr (k : Int))] 29)).alloc (.cells #[.int .i64 1, .int .i64 2, .int .u64 5, .int .u64 1, .slice (some ⟨w4.heap.size, 0, none⟩) 1 1, .slice none 0 0] 32))
            have hG := rdE_good hI hn
            have hsix := six_new (w4.alloc (.cells #[.int .i64 (k : Int), .int .u64 0, .string (oneStr (k : Int))] 29)) (rdE k (some ⟨w4.heap.size, 0, none⟩))
            rw [World.size_alloc] at hsix
            have HH := Lib.hid hH5
            have HG := Lib.hid hG
            have HS := Lib.hid hsix
            clear hH2 hH4 hI hH5 hG hsix
            go_wp2_with (at_builtin; refine wpList_appendEn _ rfl _ _ rfl a2 cap2 n2 L2 HN2.out rfl HH.out.own (by rw [HN2.out]; omega) (w4.heap.size + 1) 1 (rdE k (some ⟨w4.heap.size, 0, none⟩)) (rdE_ok k _) rfl HS.out ?_; intro a5 cap5 w5 hO6 hg6 hat6)
            have hH6 := HH.out.append HG.out hO6 hg6 hat6
            have HH6 := Lib.hid hH6
            clear hO6 hg6 hat6 hH6
            go_meet
            exact ⟨a5, some ⟨w4.heap.size, 0, none⟩, cap5, n2 + 1, rfl, by rw [HVP.out, List.length_append, HN2.out]; rfl, by rw [HVP.out]; exact HH6.out⟩
          case false =>
            have hvp : ∀ ra, vanP f k s false ra = L2 := fun ra => by unfold vanP; rw [if_neg (show ¬ false = true by simp), HL2.out, List.append_nil]
            have HVP := Lib.hid hvp
            have HH := Lib.hid hH2
            clear hvp hH2
            go_wp2_with fail
            go_meet
            exact ⟨a2, none, cap2, n2, rfl, by rw [HVP.out, HN2.out], by rw [HVP.out]; exact HH.out⟩
        case rest =>
          clear hH2
          obtain ⟨a3, ra, cap3, n3, rfl, hl3, hH3⟩ := hcut
          have hn3 : n3 ≤ 22 := by have := (vanP_length f k s read ra).1; omega
          have hvz := van_zero f k s read ra ⟨g1, g2⟩ ⟨g3, g4⟩
          have hvo := van_one f k s read ra ⟨g1, g2⟩ ⟨g3, g4⟩
          have HVZ := Lib.hid hvz
          have HVO := Lib.hid hvo
          clear hvz hvo
          generalize vanP f k s read ra = P at hl3 hH3 HVZ HVO
          have HN3 := Lib.hid hl3
          have hH4 := hH3.chg0 ((Chg.refl [] wc).alloc (.cells #[.int .i64 3, .int .i64 1, .int .u64 4, .int .u64 0, .slice none 0 0, .slice none 0 0] 32))
          have hsix := six_new wc goneE
          have HH := Lib.hid hH4
          have HS := Lib.hid hsix
          clear hl3 hH3 hH4 hsix
          have hmk := make96
          go_upto_region 13 with (at_builtin; refine wpList_appendEn _ rfl _ _ rfl a3 cap3 n3 P HN3.out rfl HH.out.own (by rw [HN3.out]; omega) wc.heap.size 1 goneE goneE_ok rfl HS.out ?_; intro a5 cap5 w5 hO6 hg6 hat6)
          have hH6 : Hold w w5 a5 cap5 (P ++ [goneE]) := HH.out.append (Good.plain _ _ _ _ _) hO6 hg6 hat6
          have HL4 : Hid ((P ++ [goneE]).length = n3 + 1) := Lib.hid (by rw [List.length_append, HN3.out]; rfl)
          clear hO6 hg6 hat6
          have hcv := conv_zero w5
          go_upto_region 14 with (fail)
          clear hcv
          have hB7 : Blk ((w5.alloc (.cells (Array.replicate 96 (.int .u8 0)) 5)).alloc (.cells #[.int .i64 (k : Int), .int .u64 0, .string zero96] 29)) (w5.heap.size + 1) #[.int .i64 (k : Int), .int .u64 0, .string zero96] 29 := Blk.newAt _ _ _ (by simp)
          have hH7 := hH6.chg0 (((Chg.refl [] w5).alloc (.cells (Array.replicate 96 (.int .u8 0)) 5)).alloc (.cells #[.int .i64 (k : Int), .int .u64 0, .string zero96] 29))
          generalize ((w5.alloc (.cells (Array.replicate 96 (.int .u8 0)) 5)).alloc (.cells #[.int .i64 (k : Int), .int .u64 0, .string zero96] 29)) = W at hB7 hH7 ⊢
          generalize w5.heap.size + 1 = bz at hB7 ⊢
          clear hH6
          generalize hQ : P ++ [goneE] = Q4 at hH7 HL4
          have HQ := Lib.hid hQ
          clear hQ
          go_cut [10, 11] (fun s10 s11 wx => s10 = .bool (decide (s < (k : Int)) && !read) ∧ s11 = .int .i64 0 ∧ Chg [] W wx)
          case first =>
            have c0 := hB7.cell 0 rfl
            have c1 := hB7.cell 1 rfl
            have c2 := hB7.cell 2 rfl
            have HH := Lib.hid hH7
            have hQl : Q4.length < 1000000 := by rw [HL4.out]; omega
            have hQ1 : 0 < Q4.length := by rw [HL4.out]; omega
            have hz : zero96.size ≤ 1000000 := by rw [zero96_size]; omega
            have HQL := Lib.hid hQl
            have HQ1 := Lib.hid hQ1
            have HZ := Lib.hid hz
            have hblt := hB7.lt
            clear hH7 hQl hQ1 hz
            go_region_held3 (fun w' => w'.cell? ⟨bz, 0, none⟩ = some (.int .i64 (k : Int)) ∧ w'.cell? ⟨bz, 1, none⟩ = some (.int .u64 0) ∧ w'.cell? ⟨bz, 2, none⟩ = some (.string zero96))
              (first
                | (refine ⟨(hB7.chg hC10 (by simp)).cell 0 rfl, (hB7.chg hC10 (by simp)).cell 1 rfl, (hB7.chg hC10 (by simp)).cell 2 rfl⟩)
                | (refine ⟨(hB7.chg hC9 (by simp)).cell 0 rfl, (hB7.chg hC9 (by simp)).cell 1 rfl, (hB7.chg hC9 (by simp)).cell 2 rfl⟩)
                | (refine ⟨(hB7.chg hK8.chg (by simp)).cell 0 rfl, (hB7.chg hK8.chg (by simp)).cell 1 rfl, (hB7.chg hK8.chg (by simp)).cell 2 rfl⟩)
                | go_keep)
              (first
                | (go_at_call 8; refine (hF9.judge HQ.out HL4.out (by omega) HVZ.out).mono ?_; rintro e w10 ⟨rfl, hC10⟩)
                | ((refine step_appendEs _ (by rfl) _ _ (by rfl) (by rfl) a5 cap5 (n3 + 1) Q4 HL4.out (by rfl) (by first | exact (HH.out.chg0 (Chg.refl [] W).drew).own | exact (HH.out.chg0 ((Chg.refl [] W).alloc _).drew).own | exact (HH.out.chg0 (((Chg.refl [] W).alloc _).alloc _).drew).own) HQ1.out HQL.out ?_; intro a8 cap8 w8 hO8 hg8 hat8; have hK8 : Cop w W w8 a8 cap8 Q4 := HH.out.cop (by first | exact (Chg.refl [] W).drew | exact ((Chg.refl [] W).alloc _).drew | exact (((Chg.refl [] W).alloc _).alloc _).drew) hO8 hg8 hat8))
                | ((refine step_appendEn _ (by rfl) _ _ (by rfl) a8 cap8 (n3 + 1) Q4 HL4.out (by rfl) (by exact (hK8.chg0 ((Chg.refl [] w8).alloc (.cells #[.int .i64 (k : Int), .int .u64 0, .string zero96] 29) |>.alloc _)).hold.own) HQL.out (w8.heap.size + 1) 1 (oF k zero96 (some ⟨w8.heap.size, 0, none⟩)) (oF_ok _ _ _) (by rfl) (by exact six_blk (Blk.newAt _ _ _ (World.size_alloc _ _)) rfl) ?_; intro a9 cap9 w9 hO9 hg9 hat9; have hF9 : Fin w W w9 a9 cap9 Q4 k zero96 := (hK8.chg0 ((Chg.refl [] w8).alloc (.cells #[.int .i64 (k : Int), .int .u64 0, .string zero96] 29) |>.alloc _)).fin ((Blk.new _ _ _).alloc _) hn HZ.out hO9 hg9 hat9; have hC9 := hF9.chg'))
                | ((refine step_appendEn _ (by rfl) _ _ (by rfl) a8 cap8 (n3 + 1) Q4 HL4.out (by rfl) (by exact (hK8.chg0 ((Chg.refl [] w8).alloc _)).hold.own) HQL.out w8.heap.size 1 (oF k zero96 (some ⟨W.heap.size, 0, none⟩)) (oF_ok _ _ _) (by rfl) (by exact six_blk (Blk.newAt _ _ _ rfl) rfl) ?_; intro a9 cap9 w9 hO9 hg9 hat9; have hF9 : Fin w W w9 a9 cap9 Q4 k zero96 := (hK8.chg0 ((Chg.refl [] w8).alloc _)).fin (((Blk.newDrew _ _ _ rfl).grown hg8 (by simp)).alloc _) hn HZ.out hO9 hg9 hat9; have hC9 := hF9.chg'))
                | ((refine step_appendEn _ (by rfl) _ _ (by rfl) a8 cap8 (n3 + 1) Q4 HL4.out (by rfl) (by exact (hK8.chg0 (Chg.refl [] w8)).hold.own) HQL.out (W.heap.size + 1) 1 (oF k zero96 (some ⟨W.heap.size, 0, none⟩)) (oF_ok _ _ _) (by rfl) (by exact six_blk ((Blk.newDrew _ _ _ (World.size_alloc _ _)).grown hg8 (by simp)) rfl) ?_; intro a9 cap9 w9 hO9 hg9 hat9; have hF9 : Fin w W w9 a9 cap9 Q4 k zero96 := (hK8.chg0 (Chg.refl [] w8)).fin (Blk.grown (Blk.drewN ((Blk.new _ _ _).alloc _) 1) hg8 (by simp)) hn HZ.out hO9 hg9 hat9; have hC9 := hF9.chg'))
                | (fail))
            all_goals
              go_wp2_with fail
              go_meet
              exact ⟨rfl, rfl, hC10⟩
          case rest =>
            obtain ⟨rfl, rfl, hCc⟩ := hcut
            have hH8 := hH7.chg0 hCc
            have hQl : Q4.length < 1000000 := by rw [HL4.out]; omega
            have hQ1 : 0 < Q4.length := by rw [HL4.out]; omega
            have hz : (oneStr (k : Int)).size ≤ 1000000 := by rw [oneStr_size]; omega
            have HQL := Lib.hid hQl
            have HQ1 := Lib.hid hQ1
            have HZ := Lib.hid hz
            have HH8 := Lib.hid hH8
            clear hQl hQ1 hz hH7 hH8 hB7 hCc
            go_wp2_with (at_builtin; refine wpList_appendEs _ rfl _ _ rfl rfl a5 cap5 (n3 + 1) Q4 HL4.out rfl HH8.out.own HQ1.out HQL.out ?_; intro a8 cap8 w8 hO8 hg8 hat8)
            have hK8 := HH8.out.cop (Chg.refl [] _) hO8 hg8 hat8
            clear hO8 hg8 hat8
            refine (one_any _ _ _).mono ?_
            rintro e w9 ⟨rfl, hb9⟩
            have hK9 := hK8.chg0 (((((Chg.refl [] w8).ofBelow hb9)).alloc (.cells #[.int .i64 (k : Int), .int .u64 0, .string (oneStr (k : Int))] 29)).alloc (.cells #[.int .i64 4, .int .i64 0, .int .u64 0, .int .u64 0, .slice (some ⟨w9.heap.size, 0, none⟩) 1 1, .slice none 0 0] 32))
            have HK9 := Lib.hid hK9
            clear hK8 hK9
            go_wp2_with (at_builtin; refine wpList_appendEn _ rfl _ _ rfl a8 cap8 (n3 + 1) Q4 HL4.out rfl HK9.out.hold.own HQL.out (w9.heap.size + 1) 1 (oF k (oneStr k) (some ⟨w9.heap.size, 0, none⟩)) (oF_ok _ _ _) rfl (six_blk (Blk.newAt _ _ _ (World.size_alloc _ _)) rfl) ?_; intro a10 cap10 w10 hO10 hg10 hat10)
            have hF := HK9.out.fin ((Blk.new w9 #[.int .i64 (k : Int), .int .u64 0, .string (oneStr (k : Int))] 29).alloc _) hn HZ.out hO10 hg10 hat10
            clear hO10 hg10 hat10
            refine (hF.judge HQ.out HL4.out (by omega) HVO.out).mono ?_
            rintro e w11 ⟨rfl, hC11⟩
            have hCz := HH8.out.chg.step hC11 (by simp)
            clear hF hC11
            go_wp2_with fail
            refine (alive_any _).mono ?_
            rintro e w12 ⟨rfl, hb12⟩
            have hC12 := hCz.ofBelow hb12
            clear hCz hb12
            by_cases hsk : s < (k : Int)
            all_goals cases read
            all_goals
              go_wp2_with fail
              go_ret
              exact ⟨by simp [hsk], hC12.below (Nat.le_refl _) (by simp)⟩

theorem van_walk (a0 : Int) (a1 : Int) (a2 : Bool) (w0 : (Lit.int .i64 a0).wf = true) (w1 : (Lit.int .i64 a1).wf = true) (w : World) :
    Calls Try.prog 4 #[.int .i64 a0, .int .i64 a1, .bool a2] w fun e w' => e = .returned (.bool true) ∧ Below w.heap.size w w' := van_any w a0 a1 a2 w0 w1

end Go.Proofs.Yteokjobkjmibfaa
