/- The walk of Judge of the package hist: is there a choice of cuts with which all is right? Condition: the events can be read, at most 400 of them. -/
import Derived.Test.YteokjobkjmibfaaGreatJ
import Derived.Laws.MakeOwn
import Derived.Deep.QuietTactic
import Derived.BigQuiet
namespace Go.Proofs.YteokjobkjmibfaaGreat
open Go.RowKit Go.Maps

def placeCells (p : List Nat) : Array Value := (p.map fun (x : Nat) => Value.int .i64 (x : Int)).toArray
theorem placeCells_set (p : List Nat) (i v : Nat) : (placeCells p).setIfInBounds i (.int .i64 (v : Int)) = placeCells (p.set i v) := by
  unfold placeCells
  simp [List.map_set]
theorem placeCells_get (p : List Nat) (i : Nat) (hi : i < p.length) : (placeCells p)[i]? = some (.int .i64 (p.getD i 0 : Nat)) := by
  unfold placeCells
  simp [List.getD_eq_getElem?_getD, hi]
theorem madePlace (n : Nat) : madeCells #[Value.int .i64 0] n = placeCells (List.replicate n 0) := by
  apply Array.ext_getElem?
  intro i
  unfold madeCells placeCells
  by_cases hi : i < n
  · simp [Array.getElem?_map, Array.getElem?_range, hi, Nat.mod_one]
  · simp [Array.getElem?_map, Array.getElem?_range, hi]

theorem info3 : (Tryz.prog.info? 3).map (fun i => (i.zero, i.size, i.bytes)) = some (some (.int .i64 0), 1, 8) := by kernel_rfl

theorem make_places (n : Nat) (hn : n ≤ 1000000) (w : World) : (Instr.makeSlice 86 (.int .i64 (n : Int)) (.int .i64 (n : Int))).run Tryz.prog w = .ok (.slice (some ⟨w.heap.size, 0, none⟩) n n) (w.alloc (.cells (placeCells (List.replicate n 0)) 3)) := by
  obtain ⟨i0, hi, hz0, hz1, hz2⟩ := info_parts info3
  have h1 := run_make (P := Tryz.prog) w 86 3 i0 _ Tryz.underlying86 hi hz0 .i64 .i64 n n (by omega) (by omega) (by rw [hz2]; omega) (by omega)
  rw [h1, hz1, Int.toNat_natCast, Nat.mul_one, ← madePlace]
  rfl

theorem OwnUU.chgN {w w' : World} {base : Nat} {a : Option Addr} {cap : Nat} {R : List Row1} (h : OwnUU w base a cap R) {S : List Nat} (hc : Chg S w w') (hn : ∀ g, g < w.heap.size → g ∉ S) : OwnUU w' base a cap R :=
  ⟨ownsRow_chg h.row hc (fun g hg => hn g (h.lt hg).2), fun r hr => (h.each r hr).chg hc (fun g hg => hn g ((h.each r hr).lt hg)), h.full, h.apart⟩

/-- what is read of the lists -/
theorem OwnUU.at_ {w : World} {base : Nat} {a : Option Addr} {cap : Nat} {R : List Row1} (h : OwnUU w base a cap R) {k : Nat} (hk : k < R.length) :
    ∃ g hb, a = some ⟨g, 0, none⟩ ∧ w.cell? ⟨g, k, none⟩ = some (R.getD k default).val ∧ (R.getD k default).a = some ⟨hb, 0, none⟩ ∧ (R.getD k default).C.length ≤ (R.getD k default).cap ∧
      ∀ i, i < (R.getD k default).C.length → w.cell? ⟨hb, i, none⟩ = some (.int .u64 ((R.getD k default).C.getD i 0)) := by
  have hr : R.getD k default ∈ R := getD_mem hk
  have h1 := h.each _ hr
  have h2 := h.full _ hr
  rcases h.row.2 with ⟨_, h0⟩ | ⟨g, c, cur, he, hb, hg, q1, q2, q3, q4⟩
  · omega
  · cases he
    have h5 : (cur.toList.take (R.length * 1))[k]? = (R.map Row1.val)[k]? := by rw [q4]
    rw [List.getElem?_take_of_lt (by omega), List.getElem?_map, List.getElem?_eq_getElem hk] at h5
    have hcell : w.cell? ⟨g, k, none⟩ = some (R.getD k default).val := by
      rw [List.getD_eq_getElem?_getD, List.getElem?_eq_getElem hk]
      simp only [World.cell?, hg]
      simpa using h5
    generalize R.getD k default = r at h1 h2 hcell
    rcases h1.2.2 with ⟨he, _⟩ | ⟨g', c', cur', he, hb', hg', p1, p2, p3, p4⟩
    · injection he with he; rw [he] at h2; exact absurd rfl h2
    · injection he with he he2 he3
      refine ⟨g, g', rfl, hcell, he, by omega, fun i hi => ?_⟩
      have h6 : (cur'.toList.take (r.C.length * 1))[i]? = (r.C.map (Value.int .u64))[i]? := by rw [p4]
      rw [List.getElem?_take_of_lt (by omega), List.getElem?_map, List.getElem?_eq_getElem hi] at h6
      rw [List.getD_eq_getElem?_getD, List.getElem?_eq_getElem hi]
      simp only [World.cell?, hg']
      simpa using h6

theorem cuts_ok {w : World} {la : Option Addr} {L : List Ev} (h : EvRow w la L) (hlen : L.length ≤ 400) (lc : Nat) (hlc : L.length ≤ lc) (h0 : cutsErr L = 0) :
    Calls Tryz.prog 8 #[.slice la L.length lc] w fun e w' => ∃ (a : Option Addr) (cap : Nat) (R : List Row1), e = .returned (.tuple #[.slice a R.length cap, .int .i64 0]) ∧ R.map Row1.C = chs L L.length ∧ OwnUU w' w.heap.size a cap R ∧ Below w.heap.size w w' :=
  (cuts_any h hlen lc hlc).mono fun _ _ ⟨a, cap, R, he, _, h1, h2, h3⟩ => ⟨a, cap, R, by rw [he, h0], h1 h0, h2, h3⟩

theorem cuts_err {w : World} {la : Option Addr} {L : List Ev} (h : EvRow w la L) (hlen : L.length ≤ 400) (lc : Nat) (hlc : L.length ≤ lc) {c : Int} (hc : cutsErr L = c) (h0 : c ≠ 0) :
    Calls Tryz.prog 8 #[.slice la L.length lc] w fun e w' => ∃ (a : Option Addr) (cap : Nat), e = .returned (.tuple #[.slice a 0 cap, .int .i64 c]) ∧ Below w.heap.size w w' :=
  (cuts_any h hlen lc hlc).mono fun _ _ ⟨a, cap, R, he, h1, _, _, h3⟩ => ⟨a, cap, by rw [he, hc, h1 (by rw [hc]; exact h0)]; rfl, h3⟩

def JudgePost (L : List Ev) (w : World) (e : Ending) (w' : World) : Prop := e = .returned (.tuple #[.bool (judgeOk L), .int .i64 (cutsErr L)]) ∧ Below w.heap.size w w'

theorem JudgePost.mk {L : List Ev} {w w' : World} {b : Bool} {c : Int} (hb : judgeOk L = b) (hc : cutsErr L = c) (hw : Below w.heap.size w w') : JudgePost L w (.returned (.tuple #[.bool b, .int .i64 c])) w' := ⟨by rw [hb, hc], hw⟩

theorem judge_yes {L : List Ev} {n : Nat} (h0 : cutsErr L = 0) (hn : n < count (chs L L.length)) (h : playOk L (pick (chs L L.length) n) = true) : judgeOk L = true := by
  unfold judgeOk
  rw [h0, Bool.and_eq_true, List.any_eq_true]
  exact ⟨rfl, n, List.mem_range.2 hn, h⟩
theorem judge_no {L : List Ev} (h : ∀ n, n < count (chs L L.length) → playOk L (pick (chs L L.length) n) = false) : judgeOk L = false := by
  unfold judgeOk
  rw [Bool.and_eq_false_iff]
  right
  rw [List.any_eq_false]
  intro n hn
  rw [h n (List.mem_range.1 hn)]; simp

theorem chs_length (L : List Ev) : ∀ k, (chs L k).length ≤ k
  | 0 => by simp [chs]
  | k + 1 => by
    unfold chs
    have := chs_length L k
    split <;> simp <;> omega

theorem play_lit {w : World} {la : Option Addr} {L : List Ev} (hL : EvRow w la L) (hl : ∀ e ∈ L, e.lies w) (hlen : L.length ≤ 400) (lc : Nat) (hlc : L.length ≤ lc) {ca : Option Addr} {C : List Int} (hC : NumsAt w ca C) (cc : Nat) (hcc : C.length ≤ cc) {n : Nat} (hn : C.length = n) {b : Bool} (hb : playOk L C = b) :
    Calls Tryz.prog 12 #[.slice la L.length lc, .slice ca n cc] w fun x w' => ∃ a m cap, x = .returned (.tuple #[.bool b, .slice a m cap]) ∧ Below w.heap.size w w' := by
  subst hn
  subst hb
  exact (play_any hL hl hlen lc hlc hC cc hcc).mono fun _ _ ⟨⟨a, I, cap, he, _⟩, hb⟩ => ⟨a, I.length, cap, he, hb⟩

theorem take_step0 {L : List Int} {k : Nat} (hk : k < L.length) : L.take (k + 1) = L.take k ++ [L.getD k 0] := by
  rw [List.take_add_one, List.getElem?_eq_getElem hk, List.getD_eq_getElem?_getD, List.getElem?_eq_getElem hk]
  rfl
theorem getD_mem0 {L : List Int} {k : Nat} (hk : k < L.length) : L.getD k 0 ∈ L := by
  rw [List.getD_eq_getElem?_getD, List.getElem?_eq_getElem hk]
  exact List.getElem_mem _
theorem chs_small {L : List Ev} (h : ∀ e ∈ L, e.ok) {m : Int} {n : Nat} (hw : ways L n = some m) : ∀ k, k ≤ n → ∀ c ∈ chs L k, c.length ≤ 3000
  | 0, _, c, hc => by simp [chs] at hc
  | k + 1, hk, c, hc => by
    unfold chs at hc
    rcases List.mem_append.1 hc with hc | hc
    · exact chs_small h hw k (by omega) c hc
    · split at hc
      · rename_i h3
        rw [List.mem_singleton.1 hc, rng_length]
        have := ways_small h n m hw k (by omega) h3
        omega
      · simp at hc
theorem chs_small0 {L : List Ev} (h : ∀ e ∈ L, e.ok) (h0 : cutsErr L = 0) : ∀ c ∈ chs L L.length, c.length ≤ 3000 := by
  unfold cutsErr at h0
  split at h0
  · omega
  · split at h0
    · omega
    · rename_i h1 h2
      cases hw : ways L L.length with
      | none => exact absurd hw h2
      | some m => exact chs_small h hw _ (Nat.le_refl _)
theorem set_carry (p : List Nat) (i : Nat) (hi : i < p.length) : (List.replicate i 0 ++ p.drop i).set i 0 = List.replicate (i + 1) 0 ++ p.drop (i + 1) := by
  rw [List.set_append_right _ _ (by simp)]
  rw [List.length_replicate, Nat.sub_self, List.drop_eq_getElem_cons hi, List.set_cons_zero, List.replicate_succ', List.append_assoc]
  rfl

theorem get_carry (p : List Nat) (i : Nat) (hi : i < p.length) : (List.replicate i 0 ++ p.drop i).getD i 0 = p.getD i 0 := by
  rw [List.getD_eq_getElem?_getD, List.getD_eq_getElem?_getD, List.getElem?_append_right (by simp)]
  simp

/-- where the loop of Judge stands -/
structure JInv (L : List Ev) (X : List (List Int)) (g : Nat) (W wr : World) (n : Nat) : Prop where
  less : n < count X
  row : Blk wr g (placeCells (place X n)) 3
  none_ : ∀ m, m < n → playOk L (pick X m) = false
  chg : Chg [g] W wr

set_option maxHeartbeats 4000000 in
set_option maxRecDepth 1000000 in
theorem judge_any {w : World} {la : Option Addr} {L : List Ev} (hL : EvRow w la L) (hl : ∀ e ∈ L, e.lies w) (hlen : L.length ≤ 400) (lc : Nat) (hlc : L.length ≤ lc) :
    Calls Tryz.prog 18 #[.slice la L.length lc] w (JudgePost L w) := by
  by_cases h0 : cutsErr L = 0
  case neg =>
    obtain ⟨c, hc⟩ : ∃ c, cutsErr L = c := ⟨_, rfl⟩
    rw [hc] at h0
    have hE := cuts_err hL hlen lc hlc hc h0
    have hj : judgeOk L = false := by
      unfold judgeOk; rw [hc, Bool.and_eq_false_iff]; left; simpa using h0
    have HJ := Lib.hid hj
    have HC := Lib.hid hc
    clear hj hc hL hl
    go_enter Tryz.func18, Tryz.ntmps18
    go_wp2_with fail
    refine hE.mono ?_
    rintro e w1 ⟨a, cap, rfl, hb⟩
    go_wp2_with fail
    go_ret2
    exact JudgePost.mk HJ.out HC.out hb
  case pos =>
    have hCu := cuts_ok hL hlen lc hlc h0
    have HOKS := Lib.hid hL.1
    have H0 := Lib.hid h0
    have HL := Lib.hid hL
    have HLI := Lib.hid hl
    have hcf := chs_full L hL.1 L.length
    have hsm := chs_small0 hL.1 h0
    have HSM := Lib.hid hsm
    clear hsm
    have HCF := Lib.hid hcf
    have hcl := chs_length L L.length
    clear hL hl h0 hcf
    go_enter Tryz.func18, Tryz.ntmps18
    go_wp2_with fail
    refine hCu.mono ?_
    rintro e w1 ⟨a, cap, R, rfl, hR, hOO, hb1⟩
    have hRl : R.length = (chs L L.length).length := by rw [← hR, List.length_map]
    have hRs : R.length ≤ 400 := by omega
    have hmk := make_places R.length (by omega)
    obtain ⟨X, hX⟩ : ∃ X, chs L L.length = X := ⟨_, rfl⟩
    rw [hX] at hR hRl HCF hcl HSM
    have hxl : ∀ k, k < R.length → X.getD k [] = (R.getD k default).C := fun k hk => by
      rw [← hR, List.getD_eq_getElem?_getD, List.getD_eq_getElem?_getD, List.getElem?_map, List.getElem?_eq_getElem hk]; rfl
    have HXE := Lib.hid hX
    have HRL := Lib.hid hRl
    have HR := Lib.hid hR
    have HXL := Lib.hid hxl
    have HOO := Lib.hid hOO
    have hg0 : JInv L X w1.heap.size (w1.alloc (.cells (placeCells (List.replicate R.length 0)) 3)) (w1.alloc (.cells (placeCells (List.replicate R.length 0)) 3)) 0 :=
      ⟨count_pos X (fun c hc => (HCF.out c hc).1), by rw [place_zero, ← hRl]; exact Blk.new _ _ _, fun m hm => by omega, Chg.refl _ _⟩
    have hC1 : Chg [] w (w1.alloc (.cells (placeCells (List.replicate R.length 0)) 3)) := ((Chg.refl [] w).ofBelow hb1).alloc _
    have hC2 : Chg [] w1 (w1.alloc (.cells (placeCells (List.replicate R.length 0)) 3)) := (Chg.refl [] w1).alloc _
    have hsW : (w1.alloc (.cells (placeCells (List.replicate R.length 0)) 3)).heap.size = w1.heap.size + 1 := by simp
    have HSW := Lib.hid hsW
    have hw1 := hb1.size
    clear hX hRl hR hxl hOO hCu hsW
    go_wp2_with fail
    generalize w1.alloc (.cells (placeCells (List.replicate R.length 0)) 3) = W at hg0 hC1 hC2 HSW ⊢
    go_loopg [12] (count X) (fun q s12 wr => ∃ n, q = count X - n ∧ JInv L X w1.heap.size W wr n)
    case atStart => exact ⟨0, rfl, hg0⟩
    case round =>
      obtain ⟨n, rfl, hI⟩ := hrel
      clear hg0 hmk
      have hCw : Chg [w1.heap.size] w1 wr := hC2.mono (by simp) |>.trans hI.chg
      have hCW : Chg [] w wr := hC1.step hI.chg (by simp; omega)
      have hOO := HOO.out.chgN hCw (by simp; omega)
      have hpl := place_length X n
      have hpk := pick_length X n
      have hplt := place_lt X (fun c hc => (HCF.out c hc).1) n
      have hpat := pick_at X n
      have hB := hI.row
      have hsr := hCw.size
      rw [← HRL.out] at hpl hpk hplt hpat
      have HI := Lib.hid hI
      have HPL := Lib.hid hpl
      have HPK := Lib.hid hpk
      have HPLT := Lib.hid hplt
      have HPAT := Lib.hid hpat
      have HO2 := Lib.hid hOO
      clear hI hpl hpk hplt hpat hOO
      go_wp2_with fail
      obtain ⟨W2, rfl⟩ : ∃ W2 : World, W2 = wr := ⟨_, rfl⟩
      go_loopg [7, 26] R.length (fun q s7 s26 wi => ∃ (j : Nat) (a2 : Option Addr) (cap2 : Nat), j ≤ R.length ∧ q = R.length - j ∧ s26 = .int .i64 j ∧ s7 = .slice a2 j cap2 ∧ OwnU wi W2.heap.size a2 cap2 ((pick X n).take j) ∧ Chg [] W2 wi)
      case atStart => exact ⟨0, none, 0, Nat.zero_le _, rfl, rfl, rfl, OwnU.nil _ _, Chg.refl _ _⟩
      case round =>
        obtain ⟨j, a2, cap2, hj, rfl, rfl, rfl, hU, hCi⟩ := hrel
        have hwi := hCi.size
        have htl : ((pick X n).take j).length = j := by rw [List.length_take, HPK.out]; omega
        have HTL := Lib.hid htl
        clear htl
        by_cases hlt : j < R.length
        case pos =>
          obtain ⟨gX, hb, rfl, e1, e2, e3, e4⟩ := (HO2.out.chgN hCi (by simp)).at_ hlt
          have e5 : wr.cell? ⟨w1.heap.size, j, none⟩ = some (.int .i64 ((place X n).getD j 0 : Nat)) := (hB.chg hCi (by simp)).cell j (placeCells_get _ _ (by rw [HPL.out]; exact hlt))
          have e6 := HPLT.out j hlt
          have e7 := HPAT.out j hlt
          rw [HXL.out j hlt] at e6 e7
          have e8 := e4 _ e6
          rw [← e7] at e8
          have hst : (pick X n).take (j + 1) = (pick X n).take j ++ [(pick X n).getD j 0] := take_step0 (by rw [HPK.out]; exact hlt)
          have hxw : wfu64 ((pick X n).getD j 0) := by
            obtain ⟨c, hc, hx⟩ := pick_mem X (fun c hc => (HCF.out c hc).1) n _ (getD_mem0 (by rw [HPK.out]; exact hlt))
            rw [← HR.out] at hc
            obtain ⟨r, hr, rfl⟩ := List.mem_map.1 hc
            exact (HO2.out.each r hr).1 _ hx
          generalize (pick X n).getD j 0 = x at hst hxw e8
          generalize (place X n).getD j 0 = p at e5 e6 e8
          obtain ⟨r, hr⟩ : ∃ r, R.getD j default = r := ⟨_, rfl⟩
          rw [hr] at e1 e2 e3 e6
          obtain ⟨ra, rcap, rC⟩ := r
          simp only [Row1.val] at e1 e2 e3 e6
          subst e2
          have HST := Lib.hid hst
          have HU := Lib.hid hU
          have e9 : (0 : Int) ≤ (p : Int) := by omega
          have e10 : (p : Int) < (rC.length : Int) := by omega
          have hB1 := Blk.new wr #[.int .u64 x] 64
          have hU1 := hU.chg ((Chg.refl [] wr).alloc (.cells #[.int .u64 x] 64)) (by simp)
          have HU1 := Lib.hid hU1
          clear hst hU e4 e7 hr hU1
          go_wp2_with (at_builtin; refine wpList_appendU _ rfl _ _ rfl W2.heap.size a2 cap2 j _ HTL.out rfl HU1.out (by simp; omega) (by rw [HTL.out]; omega) wr.heap.size 1 x hxw rfl (hB1.cell 0 rfl) ?_; intro a5 cap5 w5 hO6 hg6 hat6)
          go_roundg (R.length - (j + 1))
          case measure => omega
          case rel => exact ⟨j + 1, a5, cap5, by omega, rfl, by go_num, rfl, by rw [HST.out]; exact hO6, (hCi.alloc _).grown hg6 (fun g hg => .inr (HU.out.blk hg).1)⟩
        case neg =>
          obtain rfl : j = R.length := by omega
          have hcc := hU.cap_ge
          have hU2 : OwnU wr W2.heap.size a2 cap2 (pick X n) := by
            have := hU
            rwa [List.take_of_length_le (by rw [HPK.out]; exact Nat.le_refl _)] at this
          rw [HTL.out] at hcc
          have hCx : Chg [] w wr := hCW.step hCi (by simp)
          obtain ⟨ok, hok⟩ : ∃ ok, playOk L (pick X n) = ok := ⟨_, rfl⟩
          have hP := play_lit (HL.out.chgN hCx (by simp)) (fun e he => (HLI.out e he).chgN hCx (by simp)) hlen lc hlc (hU2.nums (by rw [HPK.out]; omega)) cap2 (by rw [HPK.out]; exact hcc) HPK.out hok
          have HOK := Lib.hid hok
          have hC3 : Chg [w1.heap.size] W wr := HI.out.chg.step hCi (by simp)
          have hB3 := hB.chg hCi (by simp)
          have hO3 := HO2.out.chgN hCi (by simp)
          have HO3 := Lib.hid hO3
          clear hU hU2 hok hO3 hB
          go_wp2_with fail
          refine hP.mono ?_
          rintro e w5 ⟨aI, mI, capI, rfl, hb5⟩
          have hC5 : Chg [w1.heap.size] W w5 := hC3.ofBelow hb5
          have hB5 := hB3.chg ((Chg.refl [] wr).ofBelow hb5) (by simp)
          have hO5 := HO3.out.chgN ((Chg.refl [] wr).ofBelow hb5) (by simp)
          have HO5 := Lib.hid hO5
          have hCx5 : Chg [] w w5 := hCx.ofBelow hb5
          clear hC3 hB3 hO5 hP
          cases ok
          case true =>
            go_wp2_with fail
            go_ret2
            exact JudgePost.mk (judge_yes (n := n) H0.out (by rw [HXE.out]; exact HI.out.less) (by rw [HXE.out]; exact HOK.out)) H0.out (hCx5.below (Nat.le_refl _) (by simp))
          case false =>
            go_wp2_with fail
            have hs5 := hC5.size
            have hs0 := HSW.out
            have hnx : ∀ m, m < n + 1 → playOk L (pick X m) = false := fun m hm => by
              by_cases e : m = n
              · rw [e]; exact HOK.out
              · exact HI.out.none_ m (by omega)
            have HNX := Lib.hid hnx
            have HSW5 : w1.heap.size < w5.heap.size := by omega
            have hCw5 : Chg [w1.heap.size] w1 w5 := (hCw.step hCi (by simp)).ofBelow hb5
            clear hnx hs0 hcc hCw hCW hCi hC1 hC2
            go_loopg [12] R.length (fun q s12 wi => ∃ i, i ≤ R.length ∧ q = R.length - i ∧ s12 = .int .i64 i ∧ Blk wi w1.heap.size (placeCells (List.replicate i 0 ++ (place X n).drop i)) 3 ∧ (∀ j, j < i → (place X n).getD j 0 = (X.getD j []).length - 1) ∧ Chg [w1.heap.size] w5 wi)
            case atStart => exact ⟨0, Nat.zero_le _, rfl, rfl, by simpa using hB5, fun j hj => by omega, Chg.refl _ _⟩
            case round =>
              obtain ⟨i, hi, rfl, rfl, hBi, hall, hCi⟩ := hrel
              have HALL := Lib.hid hall
              have hCxi : Chg [] w wr := hCx5.step hCi (by simp; omega)
              clear hall hB5
              by_cases hil : i < R.length
              case neg =>
                obtain rfl : i = R.length := by omega
                have hd : decide ((R.length : Int) < (R.length : Int)) = false := by simp
                have hlast := place_last X (fun c hc => (HCF.out c hc).1) n HI.out.less (fun j hj => HALL.out j (by rw [HRL.out]; exact hj))
                have HLAST := Lib.hid hlast
                clear hlast
                go_wp2_with fail
                go_quiet (fail)
                go_wp2_with fail
                go_ret2
                exact JudgePost.mk (judge_no (fun m hm => by rw [HXE.out] at hm ⊢; exact HNX.out m (by rw [HLAST.out]; exact hm))) H0.out (hCxi.drewN _ |>.below (Nat.le_refl _) (by simp))
              case pos =>
                obtain ⟨gX, hb, rfl, e1, e2, e3, e4⟩ := (HOO.out.chgN (hCw5.trans hCi) (by simp; omega)).at_ hil
                have hsmall : (R.getD i default).C.length ≤ 3000 := HSM.out _ (by rw [← HR.out]; exact List.mem_map_of_mem (getD_mem hil))
                have e5 : wr.cell? ⟨w1.heap.size, i, none⟩ = some (.int .i64 ((place X n).getD i 0 : Nat)) := by
                  have := hBi.cell i (placeCells_get _ i (by rw [List.length_append, List.length_replicate, List.length_drop, HPL.out]; omega))
                  rwa [get_carry _ _ (by rw [HPL.out]; exact hil)] at this
                have e6 := HPLT.out i hil
                have hxl := HXL.out i hil
                obtain ⟨p, hp⟩ : ∃ p, (place X n).getD i 0 = p := ⟨_, rfl⟩
                rw [hp] at e5 e6
                obtain ⟨r, hr⟩ : ∃ r, R.getD i default = r := ⟨_, rfl⟩
                rw [hr] at e1 e2 hxl hsmall
                obtain ⟨ra, rcap, rC⟩ := r
                simp only [Row1.val] at e1 e2 hxl hsmall
                rw [hxl] at e6
                have HXI := Lib.hid hxl
                have HP := Lib.hid hp
                have f1 : (0 : Int) ≤ (i : Int) := by omega
                have f2 : (i : Int) < (R.length : Int) := by omega
                have f3 : (0 : Int) ≤ (p : Int) := by omega
                have f4 : (1 : Int) ≤ (rC.length : Int) := by omega
                have hfr := hBi.free i
                have hBs := hBi.set i (.int .i64 0)
                have hcy := set_carry (place X n) i (by rw [HPL.out]; exact hil)
                have hps := placeCells_set (List.replicate i 0 ++ (place X n).drop i) i 0
                rw [hcy] at hps
                have HPS := Lib.hid hps
                have HBS := Lib.hid hBs
                have HBI := Lib.hid hBi
                clear e3 e4 hr hp hxl hBs hcy hps hBi
                by_cases hpe : p + 1 = rC.length
                case pos =>
                  have g1 : ((p : Int) == (rC.length : Int) - 1) = true := beq_iff_eq.2 (by omega)
                  have HPE := Lib.hid hpe
                  clear hpe
                  go_wp2_with fail
                  go_quiet (fail)
                  go_wp2_with fail
                  go_roundg (R.length - (i + 1))
                  case measure => omega
                  case rel => exact ⟨i + 1, by omega, rfl, by go_num, by rw [← HPS.out]; exact HBS.out, fun j hj => by
                    by_cases e : j = i
                    · rw [e, HP.out, HXI.out, ← HPE.out]; omega
                    · exact HALL.out j (by omega), (hCi.drewN _).setCell ⟨w1.heap.size, i, none⟩ (.inl (by simp)) _⟩
                case neg =>
                  have g1 : ((p : Int) == (rC.length : Int) - 1) = false := beq_eq_false_iff_ne.2 (by omega)
                  have g2 : ((i : Int) == (R.length : Int)) = false := beq_eq_false_iff_ne.2 (by omega)
                  have f5 : (p : Int) + 1 ≤ 3000 := by omega
                  have hne : (place X n).getD i 0 ≠ (X.getD i []).length - 1 := by rw [HP.out, HXI.out]; omega
                  have hlx : i < X.length := by rw [← HRL.out]; exact hil
                  have hmore := place_more X (fun c hc => (HCF.out c hc).1) n i HI.out.less hlx hne
                  have hcar := place_carry X (fun c hc => (HCF.out c hc).1) n i hlx (fun j hj => HALL.out j hj) hne
                  rw [HP.out] at hcar
                  have hB6 := HBI.out.set i (.int .i64 ((p + 1 : Nat) : Int))
                  rw [placeCells_set, ← hcar] at hB6
                  have HB6 := Lib.hid hB6
                  have HMORE := Lib.hid hmore
                  clear hne hlx hmore hcar hB6 hpe
                  go_wp2_with fail
                  go_quiet (fail)
                  go_wp2_with fail
                  go_roundg (count X - (n + 1))
                  case measure => have := HI.out.less; omega
                  case rel => exact ⟨n + 1, rfl, HMORE.out, HB6.out, HNX.out, (hC5.trans (hCi.drewN _)).setCell ⟨w1.heap.size, i, none⟩ (.inl (by simp)) _⟩

end Go.Proofs.YteokjobkjmibfaaGreat
