/- The walk of HistPlain. No condition. -/
import Derived.Test.YteokjobkjmibfaaPw
import Derived.Test.YteokjobkjmibfaaVx
namespace Go.Proofs.Yteokjobkjmibfaa
open Go.RowKit Go.Maps

theorem HoldX.hold {w wr : World} {bL : Nat} {a : Option Addr} {cap : Nat} {L : List Ev} (h : HoldX w wr bL a cap L) : Hold w wr a cap L := ⟨h.own, h.new, fun e he => (h.good e he).1, h.chg⟩

theorem Good.chgS {w w' : World} {e : Ev} {S : List Nat} (h : Good w e) (hr : ∀ b, blkOf e.ra = some b → b ∉ S) (hw : ∀ b, blkOf e.wa = some b → b ∉ S) (hc : Chg S w w') : Good w' e :=
  ⟨⟨h.lies.1.chg hc hr, h.lies.2.chg hc hw⟩, fun g hg => by obtain ⟨cur, hB⟩ := h.tr g hg; exact ⟨cur, hB.chg hc (hr g hg)⟩, fun g hg => by obtain ⟨cur, hB⟩ := h.tw g hg; exact ⟨cur, hB.chg hc (hw g hg)⟩⟩

/-- one event's reads are changed -/
theorem Hold.change {w wr w5 : World} {g cap g5 cap5 : Nat} {L : List Ev} {i kk : Nat} {x : Ev} {S : Str} (h : Hold w wr (some ⟨g, 0, none⟩) cap L) (hi : i < L.length) (hx : L.getD i default = x) (hk : kk < x.rs.length) (hl : x.rs.length ≤ 1000000) (hs : S.size ≤ 1000000)
    (hO : OwnM w5 (some ⟨g5, 0, none⟩) cap5 x.rs) (hg : wr.grownBy w5 none) (hat : g5 = wr.heap.size) :
    Hold w ((w5.setCell ⟨g5, kk * 3 + 2, none⟩ (.string S)).setCell ⟨g, i * 6 + 4, none⟩ (.slice (some ⟨g5, 0, none⟩) x.rs.length cap5)) (some ⟨g, 0, none⟩) cap (L.set i { x with rs := x.rs.set kk { x.rs.getD kk default with data := S }, ra := some ⟨g5, 0, none⟩, rc := cap5 }) := by
  have hc : Chg [] wr w5 := (Chg.refl [] wr).grown hg (fun k hk => by cases hk)
  have h5 := h.chg0 hc
  have hgl : g < wr.heap.size := h.own.lt (g := g) rfl
  have hne : g ≠ g5 := by omega
  have hc1 : Chg [g5] w5 (w5.setCell ⟨g5, kk * 3 + 2, none⟩ (.string S)) := (Chg.refl _ _).setCell ⟨g5, kk * 3 + 2, none⟩ (.inl (by simp)) _
  have hc2 : Chg [g5, g] w5 ((w5.setCell ⟨g5, kk * 3 + 2, none⟩ (.string S)).setCell ⟨g, i * 6 + 4, none⟩ (.slice (some ⟨g5, 0, none⟩) x.rs.length cap5)) := ((Chg.refl _ _).setCell ⟨g5, kk * 3 + 2, none⟩ (.inl (by simp)) _).setCell ⟨g, i * 6 + 4, none⟩ (.inl (by simp)) _
  have hO1 := hO.setData hk hs
  have hO2 := hO1.chg ((Chg.refl [g] _).setCell ⟨g, i * 6 + 4, none⟩ (.inl (by simp)) (.slice (some ⟨g5, 0, none⟩) x.rs.length cap5)) (fun b hb hm => by cases hb; simp at hm; exact hne hm.symm)
  have hE := (h5.own.chg hc1 (fun b hb hm => by cases hb; simp at hm; exact hne hm)).setReads hi (some ⟨g5, 0, none⟩) (x.rs.set kk { x.rs.getD kk default with data := S }) cap5
  rw [hx, List.length_set] at hE
  obtain ⟨curg, hBg⟩ := h.own.blk (g := g) rfl
  have hty : ∀ a : Option Addr, Ty wr a → ∀ b, blkOf a = some b → b ∉ [g5, g] := fun a ht b hb hm => by
    obtain ⟨cur, hB⟩ := ht b hb
    have := hB.lt
    simp at hm
    rcases hm with rfl | rfl
    · omega
    · exact blk_ne hB hBg (by decide) rfl
  refine ⟨hE, h.new, fun e he => ?_, h5.chg.step hc2 (fun k hk => ?_)⟩
  · rcases List.mem_or_eq_of_mem_set he with he | rfl
    · have hG := h.good e he
      exact (hG.chg0 hc).chgS (hty _ hG.tr) (hty _ hG.tw) hc2
    · have hG := h.good x (by rw [← hx]; exact getD_mem hi)
      have hG2 := (hG.chg0 hc).chgS (hty _ hG.tr) (hty _ hG.tw) hc2
      exact ⟨⟨hO2.imgs (by rw [List.length_set]; exact hl), hG2.lies.2⟩, hO2.ty, hG2.tw⟩
  · simp at hk
    rcases hk with rfl | rfl
    · exact .inr (by have := h.chg.size; omega)
    · exact .inr (h.new _ rfl)

/-- the last event: all is read -/
def allE (La : List Img) (bL : Nat) : Ev := ⟨4, 0, 0, 0, La, [], some ⟨bL, 0, none⟩, 10, none, 0⟩
theorem allE_ok (La : List Img) (bL : Nat) : (allE La bL).ok := ok_small (by simp [allE])
theorem allE_good {w : World} {bL : Nat} {La : List Img} {f : Arr} (hB : Blk w bL (imgCells La) 29) (hl : LastOk f La) : Good w (allE La bL) :=
  ⟨⟨blk_imgs hB hl.oks (by show La.length ≤ 1000000; rw [hl.len]; omega), imgs_nil _ _⟩, Ty.of hB, Ty.none_ _⟩

set_option maxHeartbeats 4000000 in
set_option maxRecDepth 1000000 in
theorem plain_any (w : World) (wa ra : Option Addr) (WX RX : List (List Int)) (wc rc : Nat) (at_ : Int) (hW : RowsAt w wa WX) (hR : RowsAt w ra RX) (hat : wf64 at_) :
    Calls Try.prog 3 #[.slice wa WX.length wc, .slice ra RX.length rc, .int .i64 at_] w fun e w' => e = .returned (.bool true) ∧ Below w.heap.size w w' := by
  by_cases h0 : 30 < WX.length
  · clear hW hR
    go_enter Try.func3, Try.ntmps3
    go_wp2_with fail
    refine (alive_any _).mono ?_
    rintro e w1 ⟨rfl, hb1⟩
    go_wp2_with fail
    go_ret
    exact ⟨rfl, hb1⟩
  by_cases h1 : 30 < RX.length
  · clear hW hR
    go_enter Try.func3, Try.ntmps3
    go_wp2_with fail
    refine (alive_any _).mono ?_
    rintro e w1 ⟨rfl, hb1⟩
    go_wp2_with fail
    go_ret
    exact ⟨rfl, hb1⟩
  have hmk := make10
  have hmk96 := make96
  have HW := Lib.hid hW
  have HR := Lib.hid hR
  clear hW hR
  go_enter Try.func3, Try.ntmps3
  go_wp2_with fail
  have hB0 := Blk.new w (imgCells last0) 29
  have hC0 : Chg [] w (w.alloc (.cells (imgCells last0) 29)) := (Chg.refl _ w).alloc _
  generalize (w.alloc (.cells (imgCells last0) 29)) = W1 at hB0 hC0 ⊢
  go_loopg [9] 10 (fun q s9 wr => ∃ (i : Nat) (La : List Img), i ≤ 10 ∧ q = 10 - i ∧ s9 = .int .i64 i ∧ La.length = 10 ∧ (∀ j, j < i → La.getD j default = ⟨j, 0, zero96⟩) ∧ Blk wr w.heap.size (imgCells La) 29 ∧ Chg [] w wr)
  case atStart => exact ⟨0, last0, by omega, rfl, rfl, last0_length, fun j hj => by omega, hB0, hC0⟩
  case round =>
    obtain ⟨i, La, hi, rfl, rfl, hlen, hall, hB, hC⟩ := hrel
    clear hB0 hC0
    by_cases hlt : i < 10
    case pos =>
      have hcv := conv_zero wr
      obtain ⟨c0, c1, c2⟩ := blk_img hB (k := i) (by omega)
      have z0 := hB.free (i * 3)
      have z1 := hB.free (i * 3 + 1)
      have z2 := hB.free (i * 3 + 2)
      have hlB := hB.lt
      have hne : ¬ w.heap.size = wr.heap.size := by omega
      have f1 : (0 : Int) ≤ (i : Int) := by omega
      have f2 : (i : Int) < 10 := by omega
      have HALL := Lib.hid hall
      have HLEN := Lib.hid hlen
      have HB := Lib.hid hB
      clear hall hlen hB
      go_wp2_with fail
      go_roundg (10 - (i + 1))
      case measure => omega
      case rel => exact ⟨i + 1, La.set i ⟨i, 0, zero96⟩, by omega, rfl, by go_num, by rw [List.length_set]; exact HLEN.out, fun j hj => by
        rw [getD_set (by rw [HLEN.out]; exact hlt)]
        by_cases e : i = j
        · rw [if_pos e, e]
        · rw [if_neg e]; exact HALL.out j (by omega), (blk_img_set HB.out i (by rw [HLEN.out]; exact hlt) ⟨i, 0, zero96⟩).alloc _, (((hC.setCell ⟨w.heap.size, i * 3, none⟩ (.inr (Nat.le_refl _)) _).setCell ⟨w.heap.size, i * 3 + 1, none⟩ (.inr (Nat.le_refl _)) _).setCell ⟨w.heap.size, i * 3 + 2, none⟩ (.inr (Nat.le_refl _)) _).alloc _⟩
    case neg =>
      obtain rfl : i = 10 := by omega
      have hP0 := PInv.nil hlen hall
      have HP0 := Lib.hid hP0
      clear hall hlen hP0 hi hlt hmk
      obtain ⟨bL, hbL⟩ : ∃ bL, w.heap.size = bL := ⟨_, rfl⟩
      have hbw : w.heap.size ≤ bL := by omega
      rw [hbL] at hB ⊢
      go_wp2_with fail
      go_loopg [7, 10, 11] WX.length (fun q s7 s10 s11 wr => ∃ (i : Nat) (a : Option Addr) (cap : Nat) (L : List Ev) (La : List Img), i ≤ WX.length ∧ q = WX.length - i ∧ s11 = .int .i64 i ∧ s7 = .slice a i cap ∧ s10 = .int .i64 (nreads L : Nat) ∧ L.length = i ∧ nreads L ≤ 10 * i ∧ OInv w wr bL a cap L La)
      case atStart => exact ⟨0, none, 0, [], La, Nat.zero_le _, rfl, rfl, rfl, rfl, rfl, Nat.zero_le _, HoldX.start bL hC, HP0.out, hB⟩
      case round =>
        clear hB hC HP0
        obtain ⟨i, a, cap, L, La, hi, rfl, rfl, rfl, rfl, hLl, hnr, hI⟩ := hrel
        have hcw := hI.hold.chg
        have hlBL := hI.row.lt
        have HI := Lib.hid hI
        have HLL := Lib.hid hLl
        clear hI hLl
        obtain ⟨N, hN⟩ : ∃ N, nreads L = N := ⟨_, rfl⟩
        rw [hN] at hnr ⊢
        have HN := Lib.hid hN
        clear hN
        by_cases hlt : i < WX.length
        case neg =>
          obtain rfl : i = WX.length := by omega
          have hL10 := HI.out.inv.last.len
          have hju := HI.out.inv.judge (by rw [HLL.out]; omega) (fin := allE La bL) rfl rfl
          have HJU := Lib.hid hju
          have HL10 := Lib.hid hL10
          clear hju hL10
          by_cases hz0 : WX.length = 0
          case pos =>
            have hLn : L = [] := List.eq_nil_of_length_eq_zero (by rw [HLL.out]; exact hz0)
            obtain ⟨rfl, rfl⟩ := HI.out.hold.nil hLn
            have hN0 : N = 0 := by rw [← HN.out, hLn]; rfl
            subst hN0
            obtain rfl : WX = [] := List.eq_nil_of_length_eq_zero hz0
            have HLN := Lib.hid hLn
            have hsix : ∀ r, r < 6 → (wr.alloc (.cells #[.int .i64 4, .int .i64 0, .int .u64 0, .int .u64 0, .slice (some ⟨bL, 0, none⟩) 10 10, .slice none 0 0] 32)).cell? ⟨wr.heap.size, r, none⟩ = (allE La bL).six[r]? :=
              six_blk (Blk.new _ _ _) (by simp only [Ev.six, allE, HL10.out]; rfl)
            have hG := (allE_good HI.out.row HI.out.inv.last).chg0 ((Chg.refl [] wr).alloc (.cells #[.int .i64 4, .int .i64 0, .int .u64 0, .int .u64 0, .slice (some ⟨bL, 0, none⟩) 10 10, .slice none 0 0] 32))
            have hH : Hold w (wr.alloc (.cells #[.int .i64 4, .int .i64 0, .int .u64 0, .int .u64 0, .slice (some ⟨bL, 0, none⟩) 10 10, .slice none 0 0] 32)) none 0 [] := Hold.nil (hcw.alloc _)
            have HG := Lib.hid hG
            have HH := Lib.hid hH
            have HSIX := Lib.hid hsix
            clear hLn hG hsix hH hz0 hlt hi hnr
            go_wp2_with (at_builtin; refine wpList_appendEn _ rfl _ _ rfl none 0 0 [] rfl rfl (OwnE.nil _) (by simp) wr.heap.size 1 (allE La bL) (allE_ok _ _) rfl HSIX.out ?_; intro a5 cap5 w5 hO6 hg6 hat6)
            have hH6 := HH.out.append HG.out hO6 hg6 hat6
            have hju := HJU.out
            rw [HLN.out] at hju
            refine (judge_hold hH6 (by simp) (n := 1) rfl hju).mono ?_
            rintro e w7 ⟨rfl, hb7⟩
            have hC7 : Chg [] w w7 := (((hcw).alloc (.cells #[.int .i64 4, .int .i64 0, .int .u64 0, .int .u64 0, .slice (some ⟨bL, 0, none⟩) 10 10, .slice none 0 0] 32)).grown hg6 (fun k hk => by cases hk)).ofBelow hb7
            clear hH6 hju hO6 hg6 hat6
            go_wp2_with fail
            refine (alive_any _).mono ?_
            rintro e w8 ⟨rfl, hb8⟩
            go_wp2_with fail
            go_ret
            exact ⟨rfl, (hC7.ofBelow hb8).below (Nat.le_refl _) (by simp)⟩
          case neg =>
          go_upto_region 30 with (fail)
          go_cut [17, 18] (fun s17 s18 wx => s17 = .bool true ∧ s18 = .int .i64 0 ∧ Chg [] wr wx)
          case first =>
              have hlw : WX.length < 1000000 := by omega
              have hlpos : 0 < L.length := by rw [HLL.out]; omega
              have HLPOS := Lib.hid hlpos
              have HLW := Lib.hid hlw
              clear hlpos hlw
              go_wp2_with (at_builtin; first
                | (refine wpList_appendEs _ rfl _ _ rfl rfl a cap WX.length L HLL.out rfl HI.out.hold.own HLPOS.out (by rw [HLL.out]; exact HLW.out) ?_; intro a8 cap8 w8 hO8 hg8 hat8; have HK8 := Lib.hid (HI.out.hold.hold.cop (Chg.refl [] wr) hO8 hg8 hat8); clear hO8 hg8 hat8; have hrow8 := HI.out.row.chg HK8.out.chg (by simp); have HK9 := Lib.hid (HK8.out.chg0 ((Chg.refl [] w8).alloc (.cells #[.int .i64 4, .int .i64 0, .int .u64 0, .int .u64 0, .slice (some ⟨bL, 0, none⟩) 10 10, .slice none 0 0] 32))); have HG8 := Lib.hid ((allE_good hrow8 HI.out.inv.last).chg0 ((Chg.refl [] w8).alloc (.cells #[.int .i64 4, .int .i64 0, .int .u64 0, .int .u64 0, .slice (some ⟨bL, 0, none⟩) 10 10, .slice none 0 0] 32))); have HSIX : Hid (∀ r, r < 6 → (w8.alloc (.cells #[.int .i64 4, .int .i64 0, .int .u64 0, .int .u64 0, .slice (some ⟨bL, 0, none⟩) 10 10, .slice none 0 0] 32)).cell? ⟨w8.heap.size, r, none⟩ = (allE La bL).six[r]?) := Lib.hid (six_blk (Blk.new _ _ _) (by simp only [Ev.six, allE, HL10.out]; rfl)); clear hrow8)
                | (refine wpList_appendEn _ rfl _ _ rfl a8 cap8 WX.length L HLL.out rfl HK9.out.hold.own (by rw [HLL.out]; exact HLW.out) w8.heap.size 1 (allE La bL) (allE_ok _ _) rfl HSIX.out ?_; intro a9 cap9 w9 hO9 hg9 hat9))
              have hH9 := HK9.out.hold.append HG8.out hO9 hg9 hat9
              refine (judge_hold hH9 (by rw [List.length_append, HLL.out]; simp; omega) (n := WX.length + 1) (by rw [List.length_append, HLL.out]; rfl) HJU.out).mono ?_
              rintro e w7 ⟨rfl, hb7⟩
              have hC7 : Chg [] wr w7 := (HK9.out.chg.grown hg9 (fun k hk => .inr (HK9.out.new k hk))).ofBelow hb7
              clear hH9 hO9 hg9 hat9
              go_wp2_with fail
              go_meet
              exact ⟨rfl, rfl, hC7⟩
          case rest =>
            obtain ⟨rfl, rfl, hCc⟩ := hcut
            have hH := (HI.out.hold.hold).chg0 hCc
            have HH := Lib.hid hH
            have hcw2 := hcw.step hCc (by simp)
            clear hH hcw hCc
            by_cases hN0 : N = 0
            case pos =>
              subst hN0
              go_wp2_with fail
              refine (alive_any _).mono ?_
              rintro e w8 ⟨rfl, hb8⟩
              go_wp2_with fail
              go_ret
              exact ⟨rfl, (hcw2.ofBelow hb8).below (Nat.le_refl _) (by simp)⟩
            case neg =>
              have hrng := range64 hat
              have hNp : 0 < N := by omega
              have hNq : N ≤ 300 := by omega
              have m1 : (N : Int) ≠ 0 := by omega
              have m2 : ((N : Int) == 0) = false := beq_eq_false_iff_ne.2 m1
              go_upto_if 182 with (fail)
              obtain ⟨t1, t2⟩ := tmod_bound at_ (n := (N : Int)) (by omega)
              generalize at_.tmod (N : Int) = t at t1 t2 ⊢
              go_cut [19] (fun s19 wx => (∃ kk : Nat, kk < N ∧ s19 = .int .i64 kk) ∧ Chg [] wc wx)
              case first =>
                by_cases ht : t < 0
                case pos =>
                  go_wp2_with fail
                  go_meet
                  exact ⟨⟨(t + N).toNat, by omega, by rw [Int.toNat_of_nonneg (by omega)]⟩, Chg.refl _ _⟩
                case neg =>
                  go_wp2_with fail
                  go_meet
                  exact ⟨⟨t.toNat, by omega, by rw [Int.toNat_of_nonneg (by omega)]⟩, Chg.refl _ _⟩
              case rest =>
                obtain ⟨⟨kk0, hkk0, rfl⟩, hCd⟩ := hcut
                have hHd := HH.out.chg0 hCd
                clear t1 t2 t hcw2 hCd
                go_wp2_with fail
                go_loopg [19, 20] WX.length (fun q s19 s20 wi => ∃ (i kk : Nat), i ≤ WX.length ∧ q = WX.length - i ∧ s20 = .int .i64 i ∧ s19 = .int .i64 kk ∧ nreads (L.take i) + kk < N ∧ Hold w wi a cap L)
                case atStart => exact ⟨0, kk0, Nat.zero_le _, rfl, rfl, rfl, by simpa [nreads] using hkk0, hHd⟩
                case round =>
                  obtain ⟨i, kk, hi2, rfl, rfl, rfl, hkk, hHi⟩ := hrel
                  clear hHd
                  have hil : i < WX.length := by
                    rcases Nat.lt_or_ge i WX.length with h | h
                    · exact h
                    · exfalso
                      rw [List.take_of_length_le (by rw [HLL.out]; exact h), HN.out] at hkk
                      omega
                  have hiL : i < L.length := by rw [HLL.out]; exact hil
                  have hnt := nreads_take hiL
                  obtain ⟨hok, ⟨_, _, hnil⟩ | ⟨g, cur, rfl, hBg, hcap1, hcap2, hcs, hev⟩⟩ := hHi.own
                  · rw [hnil] at hiL; simp at hiL
                  have hE := hev i hiL
                  have hGi := hHi.good _ (getD_mem hiL)
                  obtain ⟨_, _, _, _, hE4, _⟩ := hE
                  have l4 := hBg.cell _ hE4
                  have l4f := hBg.free (i * 6 + 4)
                  have hlg := hBg.lt
                  obtain ⟨x, hx⟩ : ∃ x, L.getD i default = x := ⟨_, rfl⟩
                  rw [hx] at l4 hnt hGi
                  have hfine := HI.out.inv.fine x (by rw [← hx]; exact getD_mem hiL)
                  have hkind := HI.out.inv.kind x (by rw [← hx]; exact getD_mem hiL)
                  obtain ⟨rl, hrl⟩ : ∃ rl, x.rs.length = rl := ⟨_, rfl⟩
                  rw [hrl] at l4 hnt
                  have hrs3 : rl ≤ 300 := by
                    have h1 : nreads (L.take (i + 1)) ≤ nreads L := by
                      have : nreads (L.take (i + 1) ++ L.drop (i + 1)) = nreads (L.take (i + 1)) + nreads (L.drop (i + 1)) := by unfold nreads; rw [List.map_append, List.sum_append]
                      rw [List.take_append_drop] at this
                      omega
                    rw [HN.out] at h1
                    omega
                  have f1 : (0 : Int) ≤ (i : Int) := by omega
                  have f2 : (i : Int) < (WX.length : Int) := by omega
                  have HHI := Lib.hid hHi
                  have HX := Lib.hid hx
                  have HRL := Lib.hid hrl
                  have HNT := Lib.hid hnt
                  have HFINE := Lib.hid hfine
                  have HGI := Lib.hid hGi
                  have HKIND := Lib.hid hkind
                  have HOWN : Hid (OwnE wr (some ⟨g, 0, none⟩) cap L) := Lib.hid hHi.own
                  generalize nreads (L.take i) = n0 at hkk HNT
                  clear hHi hok hcap1 hcap2 hcs hev hE4 hGi hx hrl hnt hfine hBg hkind
                  by_cases hkr : kk < rl
                  case neg =>
                    go_wp2_with fail
                    go_roundg (WX.length - (i + 1))
                    case measure => omega
                    case rel => exact ⟨i + 1, kk - rl, by omega, rfl, by go_num, by go_num, by rw [HNT.out]; omega, HHI.out⟩
                  case pos =>
                    have hkx : kk < x.rs.length := by rw [HRL.out]; exact hkr
                    obtain ⟨hs96, hnee⟩ := HFINE.out _ (getD_mem hkx)
                    obtain ⟨im, him⟩ : ∃ im, x.rs.getD kk default = im := ⟨_, rfl⟩
                    rw [him] at hs96 hnee
                    have hne := notEE_ne (T := im.data.extract 1 96) hnee
                    have HIM := Lib.hid him
                    have HNE := Lib.hid hne
                    have HKX := Lib.hid hkx
                    have hssz : (⟨#[238]⟩ ++ im.data.extract 1 96 : ByteArray).size ≤ 1000000 := by rw [ByteArray.size_append, ByteArray.size_extract, hs96]; decide
                    have HSS := Lib.hid hssz
                    have HFL := Lib.hid l4f
                    have HL4 := Lib.hid l4
                    have f4 : (0 : Int) ≤ (kk : Int) := by omega
                    have f5 : (kk : Int) < (rl : Int) := by omega
                    have hrp : 0 < rl := by omega
                    have hrp2 : rl < 1000000 := by omega
                    have hsz' : im.data.size = 96 := hs96
                    have HP0 : Hid (0 < x.rs.length) := Lib.hid (by omega)
                    have HP1 : Hid (x.rs.length < 1000000) := Lib.hid (by rw [HRL.out]; exact hrp2)
                    have HP2 : Hid (x.rs.length ≤ 1000000) := Lib.hid (Nat.le_of_lt HP1.out)
                    clear hnee him hne hkx hssz hs96
                    go_wp2_with (at_builtin; refine wpList_appendMi _ rfl _ _ rfl rfl x.ra x.rc rl x.rs HRL.out rfl HGI.out.lies.1 HP0.out HP1.out ?_; intro a5 cap5 w5 hO5 hg5 hat5; obtain ⟨g5, rfl, hg5w, c0, c1, c2, c2f, m4, m4f, n1, n2, hlg5, hlg6⟩ := copy_facts hO5 hg5 hat5 HKX.out HP2.out HIM.out hlg HL4.out HFL.out; have HO5 := Lib.hid hO5; have HG5 := Lib.hid hg5; have HGW := Lib.hid hg5w; clear hO5 hg5 hat5 hg5w)
                    have hCh := HHI.out.change hiL HX.out HKX.out HP2.out HSS.out HO5.out HG5.out HGW.out
                    have hbad := HI.out.inv.bad (by rw [HLL.out]; omega) hiL (e' := { x with rs := x.rs.set kk { x.rs.getD kk default with data := ⟨#[238]⟩ ++ im.data.extract 1 96 }, ra := some ⟨g5, 0, none⟩, rc := cap5 }) HKIND.out (k := kk) (by rw [HX.out]; exact HKX.out) (im := { x.rs.getD kk default with data := ⟨#[238]⟩ ++ im.data.extract 1 96 }) (by rw [HX.out]) (by rw [HX.out, HIM.out]; exact HNE.out) (by rw [HX.out])
                    rw [HRL.out] at hCh
                    refine (judge_hold hCh (by rw [List.length_set, HLL.out]; omega) (n := WX.length) (by rw [List.length_set]; exact HLL.out) hbad).mono ?_
                    rintro e w8 ⟨rfl, hb8⟩
                    have hCf := hCh.chg.ofBelow hb8
                    clear hCh hbad
                    go_wp2_with fail
                    refine (alive_any _).mono ?_
                    rintro e w9 ⟨rfl, hb9⟩
                    go_wp2_with fail
                    go_ret
                    exact ⟨rfl, (hCf.ofBelow hb9).below (Nat.le_refl _) (by simp)⟩
        case pos =>
          obtain ⟨wb, wo, war, wcr, rfl, hwc, hwr⟩ := (HW.out.chgN hcw (by simp)).at_ hlt
          have f1 : (0 : Int) ≤ (i : Int) := by omega
          have f2 : (i : Int) < (WX.length : Int) := by omega
          obtain ⟨wl, hwl⟩ : ∃ wl, WX.getD i [] = wl := ⟨_, rfl⟩
          rw [hwl] at hwc hwr
          have HWL := Lib.hid hwl
          clear hwl
          by_cases h10 : 10 < wl.length
          · clear hwr
            go_wp2_with fail
            go_ret
            exact ⟨rfl, hcw.below (Nat.le_refl _) (by simp)⟩
          have HWR := Lib.hid hwr
          clear hwr
          go_upto_block 4 with (fail)
          obtain ⟨W0, rfl⟩ : ∃ W0 : World, W0 = wr := ⟨_, rfl⟩
          have hBx : Blk (W0.alloc (.cells #[.int .i64 1, .int .i64 (1 + (i : Int) % 3), .int .u64 (1 + (i : Int) % 3), .int .u64 (1 + (i : Int)), .slice none 0 0, .slice none 0 0] 32)) W0.heap.size #[.int .i64 1, .int .i64 (1 + (i : Int) % 3), .int .u64 (1 + (i : Int) % 3), .int .u64 (1 + (i : Int)), .slice none 0 0, .slice none 0 0] 32 := Blk.new _ _ _
          have hCx : Chg [] W0 (W0.alloc (.cells #[.int .i64 1, .int .i64 (1 + (i : Int) % 3), .int .u64 (1 + (i : Int) % 3), .int .u64 (1 + (i : Int)), .slice none 0 0, .slice none 0 0] 32)) := (Chg.refl _ _).alloc _
          have hsx : W0.heap.size < (W0.alloc (.cells #[.int .i64 1, .int .i64 (1 + (i : Int) % 3), .int .u64 (1 + (i : Int) % 3), .int .u64 (1 + (i : Int)), .slice none 0 0, .slice none 0 0] 32)).heap.size := hBx.lt
          generalize (W0.alloc (.cells #[.int .i64 1, .int .i64 (1 + (i : Int) % 3), .int .u64 (1 + (i : Int) % 3), .int .u64 (1 + (i : Int)), .slice none 0 0, .slice none 0 0] 32)) = W3 at hBx hCx hsx ⊢
          go_cut [10] (fun s10 wi => ∃ (k : Nat) (ra' : Option Addr) (rca : Nat) (rs : List Img), k ≤ 10 ∧ s10 = .int .i64 ((N + k : Nat) : Int) ∧ rs.length = k ∧ RInv (runs L).1 rs [] La ∧ OwnM wi ra' rca rs ∧ (∀ g, blkOf ra' = some g → W0.heap.size < g) ∧
            Blk wi W0.heap.size #[.int .i64 1, .int .i64 (1 + (i : Int) % 3), .int .u64 (1 + (i : Int) % 3), .int .u64 (1 + (i : Int)), .slice ra' k rca, .slice none 0 0] 32 ∧ Chg [] W0 wi)
          case first =>
            go_wp2_with fail
            go_loopg [10, 13] 10 (fun q s10 s13 wi => ∃ (k : Nat) (ra' : Option Addr) (rca : Nat) (rs : List Img), k ≤ 10 ∧ q = 10 - k ∧ s13 = .int .i64 k ∧ s10 = .int .i64 ((N + k : Nat) : Int) ∧ rs.length = k ∧ RInv (runs L).1 rs [] La ∧ OwnM wi ra' rca rs ∧ (∀ g, blkOf ra' = some g → W0.heap.size < g) ∧
              Blk wi W0.heap.size #[.int .i64 1, .int .i64 (1 + (i : Int) % 3), .int .u64 (1 + (i : Int) % 3), .int .u64 (1 + (i : Int)), .slice ra' k rca, .slice none 0 0] 32 ∧ Chg [] W0 wi)
            case atStart => exact ⟨0, none, 0, [], by omega, rfl, rfl, rfl, rfl, RInv.start HI.out.inv.last, OwnM.nil _, by simp [blkOf], hBx, hCx⟩
            case round =>
              obtain ⟨k, ra', rca, rs, hk, rfl, rfl, rfl, hrl, hRI, hOM, hnb, hB, hC⟩ := hrel
              clear hBx hCx hsx
              have HRI := Lib.hid hRI
              have HRL := Lib.hid hrl
              have HOM := Lib.hid hOM
              have HNB := Lib.hid hnb
              clear hRI hrl hOM hnb
              by_cases hcA : i < RX.length
              case neg =>
                have HB := Lib.hid hB
                clear hB
                go_wp2_with fail
                go_meet
                exact ⟨k, ra', rca, rs, hk, rfl, HRL.out, HRI.out, HOM.out, HNB.out, HB.out, hC⟩
              case pos =>
                obtain ⟨rb, ro, rar, rcr, rfl, hrc, hrr⟩ := (HR.out.chgN (hcw.step hC (by simp)) (by simp)).at_ hcA
                obtain ⟨rl, hrl⟩ : ∃ rl, RX.getD i [] = rl := ⟨_, rfl⟩
                rw [hrl] at hrc hrr
                have HRLL := Lib.hid hrl
                clear hrl
                have f3 : (i : Int) < (RX.length : Int) := by omega
                by_cases hcB : k < rl.length
                case neg =>
                  have HB := Lib.hid hB
                  clear hB hrr
                  go_wp2_with fail
                  go_meet
                  exact ⟨k, ra', rca, rs, hk, rfl, HRL.out, HRI.out, HOM.out, HNB.out, HB.out, hC⟩
                case pos =>
                  by_cases hcC : k < 10
                  case neg =>
                    have HB := Lib.hid hB
                    clear hB hrr
                    go_wp2_with fail
                    go_meet
                    exact ⟨k, ra', rca, rs, hk, rfl, HRL.out, HRI.out, HOM.out, HNB.out, HB.out, hC⟩
                  case pos =>
                    go_upto_region 19 with (fail)
                    have hx4 := hB.cell 4 rfl
                    have hz4 := hB.free 4
                    obtain ⟨b', o', rfl, hrx⟩ := hrr.resolve_left (fun e => by rw [e] at hcB; simp at hcB)
                    have hrx1 := hrx k hcB
                    clear hrx
                    obtain ⟨m, hm8, hm⟩ := and7 (rl.getD k 0)
                    generalize rl.getD k 0 = x at hrx1 hm
                    have hL10 := HI.out.inv.last.len
                    have hrow := HI.out.row.chg hC (by simp)
                    obtain ⟨c0, c1, c2⟩ := blk_img hrow (k := m) (by omega)
                    have hRI2 := HRI.out.read (b := m) (by omega)
                    have hlm : (La.getD m default).ok := HI.out.inv.last.oks _ (getD_mem (by omega))
                    obtain ⟨im, him⟩ : ∃ im, La.getD m default = im := ⟨_, rfl⟩
                    rw [him] at c0 c1 c2 hRI2 hlm
                    obtain ⟨ib, iv, idt⟩ := im
                    simp only at c0 c1 c2
                    have f4 : (0 : Int) ≤ (k : Int) := by omega
                    have f5 : (k : Int) < (rl.length : Int) := by omega
                    have f6 : (0 : Int) ≤ (m : Int) := by omega
                    have f7 : (m : Int) < 10 := by omega
                    have HB := Lib.hid hB
                    have HRI2 := Lib.hid hRI2
                    have HLM := Lib.hid hlm
                    clear hB hrow hL10 hRI2 hlm him
                    have hOM1 := HOM.out.chg (((Chg.refl [] wr).alloc (.cells #[.int .i64 ib, .int .u64 iv, .string idt] 29)).drew) (by simp)
                    have HOM1 := Lib.hid hOM1
                    clear hOM1
                    have hlbx : W0.heap.size < wr.heap.size := HB.out.lt
                    have hbxn : some W0.heap.size ≠ blkOf ra' := fun e => Nat.lt_irrefl _ (HNB.out _ e.symm)
                    have HBD : Hid (Blk ((wr.alloc (.cells #[.int .i64 ib, .int .u64 iv, .string idt] 29)).drew) W0.heap.size _ 32) := Lib.hid (HB.out.alloc _)
                    go_region_law ((refine step_appendMn _ (by rfl) _ _ (by rfl) ra' rca k rs HRL.out (by rfl) HOM1.out (by rw [HRL.out]; omega) wr.heap.size 1 ⟨ib, iv, idt⟩ HLM.out (by rfl) (three_at (e := ⟨ib, iv, idt⟩) (Blk.newDrew _ _ _ rfl) rfl) ?_; intro a5 cap5 w5 hO6 hg6 hat6; have hB5 := HBD.out.grown hg6 hbxn; have k4 := hB5.cell 4 rfl; have k4f := hB5.free 4))
                    all_goals
                      have HB5 := Lib.hid hB5
                      have HHG := Lib.hid hg6
                      have HHA := Lib.hid hat6
                      have HO6 := Lib.hid hO6
                      clear hB5 hg6 hat6 hO6 k4 k4f
                      go_wp2_with fail
                      go_roundg (10 - (k + 1))
                      case measure => omega
                      case rel =>
                        have hn6 : ∀ g, blkOf a5 = some g → W0.heap.size < g := fun g hg => by
                          rcases HHA.out with h | h
                          · rw [h] at hg; exact HNB.out g hg
                          · rw [h] at hg; cases hg; show W0.heap.size < (wr.alloc _).heap.size; rw [World.size_alloc]; omega
                        refine ⟨k + 1, a5, cap5, rs ++ [⟨ib, iv, idt⟩], by omega, rfl, by go_num, by go_num, by rw [List.length_append, HRL.out]; rfl, HRI2.out, ?_, hn6, HB5.out.set 4 _, ?_⟩
                        · exact HO6.out.chg ((Chg.refl [W0.heap.size] w5).setCell ⟨W0.heap.size, 4, none⟩ (.inl (by simp)) _) (fun g hg hm => by simp at hm; have := hn6 g hg; omega)
                        · exact (((hC.alloc _).drew).grown HHG.out (fun g hg => .inr (Nat.le_of_lt (HNB.out g hg)))).setCell ⟨W0.heap.size, 4, none⟩ (.inr (Nat.le_refl _)) _
          case rest =>
            clear hBx hCx hsx
            obtain ⟨k3, ra', rca, rs, hk3, rfl, hrs, hRI, hOM, hnb, hB, hC⟩ := hcut
            have hrow := HI.out.row.chg hC (by simp)
            have HRS := Lib.hid hrs
            have HRI := Lib.hid hRI
            have HOM := Lib.hid hOM
            have HNB := Lib.hid hnb
            have HB := Lib.hid hB
            have HROW := Lib.hid hrow
            have hC' : Chg [bL] W0 wc := hC.mono (by simp)
            have hszc := hC.size
            clear hrs hRI hOM hnb hB hrow hC
            go_wp2_with fail
            go_loopg [14] wl.length (fun q s14 wi => ∃ (k : Nat) (wa' : Option Addr) (wca : Nat) (ws La' : List Img), k ≤ wl.length ∧ q = wl.length - k ∧ s14 = .int .i64 k ∧ ws.length = k ∧ RInv (runs L).1 rs ws La' ∧ OwnM wi wa' wca ws ∧ (∀ g, blkOf wa' = some g → W0.heap.size < g ∧ blkOf ra' ≠ some g) ∧
              OwnM wi ra' rca rs ∧ Blk wi W0.heap.size #[.int .i64 1, .int .i64 (1 + (i : Int) % 3), .int .u64 (1 + (i : Int) % 3), .int .u64 (1 + (i : Int)), .slice ra' k3 rca, .slice wa' k wca] 32 ∧ Blk wi bL (imgCells La') 29 ∧ Chg [bL] W0 wi)
            case atStart => exact ⟨0, none, 0, [], La, Nat.zero_le _, rfl, rfl, rfl, HRI.out, OwnM.nil _, by simp [blkOf], HOM.out, HB.out, HROW.out, hC'⟩
            case round =>
              clear hC' HB HROW HOM HRI
              obtain ⟨k, wa', wca, ws, La', hk, rfl, rfl, hws, hRI, hOW, hnw, hOR, hB, hrow, hC⟩ := hrel
              have hCt : Chg [] w wr := hcw.step hC (by simp; omega)
              have HWS := Lib.hid hws
              have HRI := Lib.hid hRI
              have HOW := Lib.hid hOW
              have HNW := Lib.hid hnw
              have HOR := Lib.hid hOR
              have HB := Lib.hid hB
              have HROW := Lib.hid hrow
              obtain ⟨war2, wcr2, hwc2, hwr2⟩ := (HW.out.chgN hCt (by simp)).at2 hlt
              rw [HWL.out] at hwc2 hwr2
              have hlbx := hB.lt
              by_cases hkl : k < wl.length
              case neg =>
                obtain rfl : k = wl.length := by omega
                have y0 := hB.cell 0 rfl
                have y1 := hB.cell 1 rfl
                have y2 := hB.cell 2 rfl
                have y3 := hB.cell 3 rfl
                have y4 := hB.cell 4 rfl
                have y5 := hB.cell 5 rfl
                clear hws hRI hOW hnw hOR hB hrow hwr2
                obtain ⟨x, hx⟩ : ∃ x : Ev, x = ⟨1, 1 + (i : Int) % 3, 1 + (i : Int) % 3, 1 + (i : Int), rs, ws, ra', rca, wa', wca⟩ := ⟨_, rfl⟩
                have hxok : x.ok := by rw [hx]; exact ok_small (by simp; omega)
                have hsix : ∀ r, r < 6 → (wr.alloc (.cells #[.int .i64 1, .int .i64 (1 + (i : Int) % 3), .int .u64 (1 + (i : Int) % 3), .int .u64 (1 + (i : Int)), .slice ra' k3 rca, .slice wa' wl.length wca] 32)).cell? ⟨wr.heap.size, r, none⟩ = x.six[r]? :=
                  six_blk (Blk.new _ _ _) (by rw [hx]; simp only [Ev.six, HRS.out, HWS.out])
                have hCal : Chg [] wr (wr.alloc (.cells #[.int .i64 1, .int .i64 (1 + (i : Int) % 3), .int .u64 (1 + (i : Int) % 3), .int .u64 (1 + (i : Int)), .slice ra' k3 rca, .slice wa' wl.length wca] 32)) := (Chg.refl _ _).alloc _
                have hH1 := (HI.out.hold.chgB HI.out.row hbw hC).chg0 hCal
                have hG1 : Good wr x := by
                  rw [hx]
                  exact ⟨⟨HOR.out.imgs (by rw [HRS.out]; omega), HOW.out.imgs (by rw [HWS.out]; omega)⟩, HOR.out.ty, HOW.out.ty⟩
                have hG2 := hG1.chg0 hCal
                have hnbl : blkOf x.ra ≠ some bL ∧ blkOf x.wa ≠ some bL := by
                  rw [hx]
                  exact ⟨fun e => by have := HNB.out _ e; omega, fun e => by have := (HNW.out _ e).1; omega⟩
                have hrow1 := HROW.out.chg hCal (by simp)
                have hst := HI.out.inv.step (e := x) (by rw [hx]) (by rw [hx]; exact HRI.out)
                have hxr : x.rs.length = k3 := by rw [hx]; exact HRS.out
                have HXR := Lib.hid hxr
                have HST := Lib.hid hst
                have HH1 := Lib.hid hH1
                have HG2 := Lib.hid hG2
                have HNBL := Lib.hid hnbl
                have HROW1 := Lib.hid hrow1
                have HSIX := Lib.hid hsix
                clear hx hsix hH1 hG1 hG2 hnbl hrow1 hst hxr hCal
                go_wp2_with (at_builtin; refine wpList_appendEn _ rfl _ _ rfl a cap i L HLL.out rfl HH1.out.own (by rw [HLL.out]; omega) wr.heap.size 1 x hxok rfl HSIX.out ?_; intro a5 cap5 w5 hO6 hg6 hat6; have HO6 := Lib.hid hO6; have HG6 := Lib.hid hg6; have HA6 := Lib.hid hat6; clear hO6 hg6 hat6)
                go_roundg (WX.length - (i + 1))
                case measure => omega
                case rel =>
                  have hH6 := HH1.out.append HG2.out HNBL.out HO6.out HG6.out HA6.out
                  refine ⟨i + 1, a5, cap5, L ++ [x], La', by omega, rfl, by go_num, rfl, by rw [nreads_snoc, HN.out, HXR.out]; go_num, by rw [List.length_append, HLL.out]; rfl, by rw [nreads_snoc, HN.out, HXR.out]; omega, hH6, HST.out, ?_⟩
                  exact HROW1.out.grown HG6.out (fun e => by
                    obtain ⟨cur, hE⟩ := HH1.out.own.blk e.symm
                    exact blk_ne HROW1.out hE (by decide) rfl)
              case pos =>
                obtain ⟨b', o', rfl, hwx⟩ := hwr2.resolve_left (fun e => by rw [e] at hkl; simp at hkl)
                have hwx1 := hwx k hkl
                obtain ⟨m, hm8, hm⟩ := and7 (wl.getD k 0)
                generalize wl.getD k 0 = x at hwx1 hm
                have f4 : (0 : Int) ≤ (k : Int) := by omega
                have f5 : (k : Int) < (wl.length : Int) := by omega
                clear hwx hwr2 hws hRI hOW hnw hOR hB hrow
                go_wp2_with fail
                refine (one_any _ _ _).mono ?_
                rintro e w4 ⟨rfl, hb4⟩
                go_upto_region 26 with (fail)
                have hBw : Blk (w4.alloc (.cells #[.int .i64 (m : Int), .int .u64 0, .string (oneStr (m : Int))] 29)) w4.heap.size #[.int .i64 (m : Int), .int .u64 0, .string (oneStr (m : Int))] 29 := Blk.new _ _ _
                have hCw : Chg [] wr (w4.alloc (.cells #[.int .i64 (m : Int), .int .u64 0, .string (oneStr (m : Int))] 29)) := ((Chg.refl [] wr).ofBelow hb4).alloc _
                have hszw : wr.heap.size ≤ w4.heap.size := hb4.size
                generalize (w4.alloc (.cells #[.int .i64 (m : Int), .int .u64 0, .string (oneStr (m : Int))] 29)) = V at hBw hCw ⊢
                generalize w4.heap.size = bw at hBw hszw ⊢
                have hos := oneStr_size (m : Int)
                generalize oneStr (m : Int) = S0 at hBw hos ⊢
                go_cut [15] (fun s15 wx => s15 = .int .i64 (m : Int) ∧ ∃ S : Str, S.size = 96 ∧ NotEE S ∧ Blk wx bw #[.int .i64 (m : Int), .int .u64 0, .string S] 29 ∧ Chg [bw] V wx)
                case first =>
                  have c2 := hBw.cell 2 rfl
                  have z2 := hBw.free 2
                  have hlw := hBw.lt
                  have hne : ¬ bw = V.heap.size := by omega
                  have hcv : (convert 26 9 (.slice (some ⟨V.heap.size, 0, none⟩) 2 2)).run Try.prog ((V.alloc (.cells #[.int .u8 (((i : Int) + 1)), .int .u8 (k : Int)] 5)).drew) = .ok (.string (strOfNums [((i : Int) + 1), (k : Int)])) ((V.alloc (.cells #[.int .u8 (((i : Int) + 1)), .int .u8 (k : Int)] 5)).drew) :=
                    conv_blk (xs := [((i : Int) + 1), (k : Int)]) (Blk.newDrew _ _ _ rfl) rfl 2
                  have hos' : S0.size = 96 := hos
                  have hsz2 : (strOfNums [((i : Int) + 1), (k : Int)]).size = 2 := rfl
                  go_region
                  all_goals
                    go_wp2_with fail
                    go_meet
                    refine ⟨rfl, strOfNums [((i : Int) + 1), (k : Int)] ++ S0.extract 2 96, ?_, notEE_nums (by omega) (by omega), ?_, ?_⟩
                    · rw [ByteArray.size_append, strOfNums_size, ByteArray.size_extract, hos]; rfl
                    · exact (hBw.set 2 _).alloc _
                    · exact (((Chg.refl [bw] V).setCell ⟨bw, 2, none⟩ (.inl (by simp)) _).alloc _).drew
                case rest =>
                  obtain ⟨rfl, S, hS1, hS2, hBw2, hCw2⟩ := hcut
                  have hCd : Chg [] wr wc := hCw.step hCw2 (by simp; omega)
                  have hlen' := HRI.out.last.len
                  have hB1 := HB.out.chg hCd (by simp)
                  have x5 := hB1.cell 5 rfl
                  have i0 := hBw2.cell 0 rfl
                  have i1 := hBw2.cell 1 rfl
                  have i2 := hBw2.cell 2 rfl
                  have hlw2 := hBw2.lt
                  have hlx2 := hB1.lt
                  have hOW1 := (HOW.out.chg hCd (by simp)).chg ((Chg.refl [] wc).alloc (.cells #[.int .i64 (m : Int), .int .u64 0, .string S] 29)) (by simp)
                  have hok : Img.ok ⟨(m : Int), 0, S⟩ := ⟨(wf64_of (by omega) (by omega) : wf64 (m : Int)), wfu64_of (by simp) (by simp), (by omega : S.size ≤ 1000000)⟩
                  have nw1 : ∀ g, blkOf wa' = some g → g < wr.heap.size := fun g hg => HOW.out.lt hg
                  have e1 : some W0.heap.size ≠ blkOf wa' := fun e => Nat.lt_irrefl _ (HNW.out _ e.symm).1
                  have e2 : some bw ≠ blkOf wa' := fun e => by have := nw1 _ e.symm; omega
                  have e3 : some bL ≠ blkOf wa' := fun e => by have := (HNW.out _ e.symm).1; omega
                  have HB1 : Hid (Blk (wc.alloc (.cells #[.int .i64 (m : Int), .int .u64 0, .string S] 29)) W0.heap.size _ 32) := Lib.hid (hB1.alloc _)
                  have HBW : Hid (Blk (wc.alloc (.cells #[.int .i64 (m : Int), .int .u64 0, .string S] 29)) bw _ 29) := Lib.hid (hBw2.alloc _)
                  have HROW1 : Hid (Blk (wc.alloc (.cells #[.int .i64 (m : Int), .int .u64 0, .string S] 29)) bL _ 29) := Lib.hid ((HROW.out.chg hCd (by simp)).alloc _)
                  have HOR1 : Hid (OwnM (wc.alloc (.cells #[.int .i64 (m : Int), .int .u64 0, .string S] 29)) ra' rca rs) := Lib.hid ((HOR.out.chg hCd (by simp)).chg ((Chg.refl [] wc).alloc _) (by simp))
                  have hCe : Chg [bL] W0 (wc.alloc (.cells #[.int .i64 (m : Int), .int .u64 0, .string S] 29)) := (hC.step hCd (by simp)).alloc _
                  have HOW1 := Lib.hid hOW1
                  have HE1 := Lib.hid e1
                  have HE2 := Lib.hid e2
                  have HE3 := Lib.hid e3
                  have HLEN' := Lib.hid hlen'
                  have hszd : wr.heap.size ≤ wc.heap.size := hCd.size
                  have hltR : ∀ g, blkOf ra' = some g → g < wc.heap.size := fun g hg => (HOR.out.chg hCd (by simp)).lt hg
                  have HLTR := Lib.hid hltR
                  have n1 : ¬ bw = W0.heap.size := by omega
                  have n2 : ¬ W0.heap.size = bw := by omega
                  have n3 : ¬ bL = W0.heap.size := by omega
                  have n4 : ¬ W0.heap.size = bL := by omega
                  have n5 : ¬ bL = bw := by omega
                  have n6 : ¬ bw = bL := by omega
                  have hmi : (0 : Int) ≤ (m : Int) := by omega
                  have hmj : (m : Int) < 10 := by omega
                  have hm10 : m < 10 := by omega
                  have HHS1 := Lib.hid hS1
                  have HHS2 := Lib.hid hS2
                  clear hlen' hB1 hBw2 hOW1 nw1 e1 e2 e3 hltR hS1 hS2 hCw2 hCw hBw hos
                  go_wp2_with (at_builtin; refine wpList_appendMn _ rfl _ _ rfl wa' wca k ws HWS.out rfl HOW1.out (by rw [HWS.out]; omega) wc.heap.size 1 ⟨(m : Int), 0, S⟩ hok rfl (three_at (e := ⟨(m : Int), 0, S⟩) (Blk.newAt _ _ _ rfl) rfl) ?_; intro a5 cap5 w6 hO6 hg6 hat6; have q0 := (HBW.out.grown hg6 HE2.out).cell 0 rfl; have q1 := (HBW.out.grown hg6 HE2.out).cell 1 rfl; have q2 := (HBW.out.grown hg6 HE2.out).cell 2 rfl; have p5 := (HB1.out.grown hg6 HE1.out).cell 5 rfl; have p5f := (HB1.out.grown hg6 HE1.out).free 5; obtain ⟨r0, r1, r2⟩ := blk_img (HROW1.out.grown hg6 HE3.out) (k := m) (by rw [HLEN'.out]; exact hm10); have r0f := (HROW1.out.grown hg6 HE3.out).free (m * 3); have r1f := (HROW1.out.grown hg6 HE3.out).free (m * 3 + 1); have r2f := (HROW1.out.grown hg6 HE3.out).free (m * 3 + 2); have HG6 := Lib.hid hg6; have HO6 := Lib.hid hO6; have HA6 := Lib.hid hat6; clear hg6 hO6 hat6)
                  go_roundg (wl.length - (k + 1))
                  case measure => omega
                  case rel =>
                    have hn6 : ∀ g, blkOf a5 = some g → W0.heap.size < g ∧ blkOf ra' ≠ some g := fun g hg => by
                      rcases HA6.out with h | h
                      · rw [h] at hg; exact HNW.out g hg
                      · rw [h] at hg; cases hg
                        have e : (wc.alloc (.cells #[.int .i64 (m : Int), .int .u64 0, .string S] 29)).heap.size = wc.heap.size + 1 := World.size_alloc _ _
                        rw [e]
                        exact ⟨by omega, fun h2 => by have := HLTR.out _ h2; omega⟩
                    have hCs : Chg [W0.heap.size, bL] w6 ((((w6.setCell ⟨W0.heap.size, 5, none⟩ (.slice a5 (k + 1) cap5)).setCell ⟨bL, m * 3, none⟩ (.int .i64 (m : Int))).setCell ⟨bL, m * 3 + 1, none⟩ (.int .u64 0)).setCell ⟨bL, m * 3 + 2, none⟩ (.string S)) :=
                      ((((Chg.refl _ w6).setCell ⟨W0.heap.size, 5, none⟩ (.inl (by simp)) _).setCell ⟨bL, m * 3, none⟩ (.inl (by simp)) _).setCell ⟨bL, m * 3 + 1, none⟩ (.inl (by simp)) _).setCell ⟨bL, m * 3 + 2, none⟩ (.inl (by simp)) _
                    refine ⟨k + 1, a5, cap5, ws ++ [⟨(m : Int), 0, S⟩], La'.set m ⟨(m : Int), 0, S⟩, by omega, rfl, by go_num, by rw [List.length_append, HWS.out]; rfl, HRI.out.put hm10 rfl rfl HHS1.out HHS2.out, ?_, hn6, ?_, ?_, ?_, ?_⟩
                    · exact HO6.out.chg hCs (fun g hg hm => by
                        have h1 := (hn6 g hg).1
                        simp at hm
                        omega)
                    · have h1 : OwnM w6 ra' rca rs := HOR1.out.chg (grown_chg HG6.out) (fun g hg hm => by
                        have h2 : blkOf wa' = some g := by simpa using hm
                        exact (HNW.out g h2).2 hg)
                      exact h1.chg hCs (fun g hg hm => by
                        have h2 := HNB.out g hg
                        simp at hm
                        omega)
                    · exact ((((HB1.out.grown HG6.out HE1.out).set 5 _).setOther ⟨bL, m * 3, none⟩ n4 _).setOther ⟨bL, m * 3 + 1, none⟩ n4 _).setOther ⟨bL, m * 3 + 2, none⟩ n4 _
                    · exact blk_img_set ((HROW1.out.grown HG6.out HE3.out).setOther ⟨W0.heap.size, 5, none⟩ n3 _) m (by rw [HLEN'.out]; exact hm10) ⟨(m : Int), 0, S⟩
                    · exact (hCe.grown HG6.out (fun g hg => .inr (Nat.le_of_lt (HNW.out g hg).1))).step hCs (fun g hg => by
                        simp at hg
                        rcases hg with rfl | rfl
                        · exact .inr (Nat.le_refl _)
                        · exact .inl (by simp))

end Go.Proofs.Yteokjobkjmibfaa
