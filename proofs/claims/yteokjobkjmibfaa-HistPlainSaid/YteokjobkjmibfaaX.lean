/- The walk of HistOrder. No condition. -/
import Derived.Test.YteokjobkjmibfaaV
import Derived.RegionTactic
import Derived.ChangeAlike
import Derived.BigRegion
namespace Go.Proofs.Yteokjobkjmibfaa
open Go.RowKit Go.Maps

/-! ### the plain law -/
def oX (n : Int) (S : Str) (wa : Option Addr) : Ev := ⟨1, 1, 1, 1, [], [⟨n, 0, S⟩], none, 0, wa, 1⟩
def oY (n : Int) (S : Str) (RS : List Img) (ra : Option Addr) (rc : Nat) (wa : Option Addr) : Ev := ⟨1, 2, 2, 1, RS, [⟨n, 0, S⟩], ra, rc, wa, 1⟩
def oF (n : Int) (S : Str) (fa : Option Addr) : Ev := ⟨4, 0, 0, 0, [⟨n, 0, S⟩], [], fa, 1, none, 0⟩

theorem has_upd (f : Arr) (n : Int) (S : Str) : (upd f n S).has n = S := by unfold Arr.has upd; rw [if_pos rfl]; rfl
theorem right_upd (f : Arr) (n v : Int) (S : Str) : (upd f n S).right ⟨n, v, S⟩ = true := (right_iff _ _).2 (has_upd f n S)
theorem wrong_upd (f : Arr) (n v : Int) (S T : Str) (h : S ≠ T) : (upd f n S).right ⟨n, v, T⟩ = false := right_false _ _ (by show (upd f n S).has n ≠ T; rw [has_upd]; exact h)
theorem wrong_none (n v : Int) (T : Str) (h : T ≠ zero96) : Arr.right (fun _ => none) ⟨n, v, T⟩ = false := right_false _ _ (fun e => h e.symm)
theorem right_none (n v : Int) : Arr.right (fun _ => none) ⟨n, v, zero96⟩ = true := (right_iff _ _).2 rfl

theorem head_ne {c d : UInt8} {S T : Str} (h : c ≠ d) : (⟨#[c]⟩ ++ S : ByteArray) ≠ ⟨#[d]⟩ ++ T := by
  intro e
  have h1 : (⟨#[c]⟩ ++ S : ByteArray).data.toList = (⟨#[d]⟩ ++ T : ByteArray).data.toList := by rw [e]
  simp at h1
  exact h h1.1
theorem head_ne_zero {c : UInt8} {S : Str} (h : c ≠ 0) : (⟨#[c]⟩ ++ S : ByteArray) ≠ zero96 := by
  intro e
  have h1 : (⟨#[c]⟩ ++ S : ByteArray).data.toList = (strOfNums (0 :: zeros 95)).data.toList := by rw [e, zero96_eq]; rfl
  rw [strOfNums_data, List.map_cons] at h1
  simp at h1
  exact h h1.1

theorem order_p {n : Int} {SA SB : Str} {RS : List Img} (hRS : RS = [] ∨ RS = [⟨n, 0, SA⟩]) (wa : Option Addr) (ra : Option Addr) (rc : Nat) (wb fa : Option Addr) :
    cutsErr [oX n SA wa, oY n SB RS ra rc wb, oF n SB fa] = 0 ∧ judgeOk [oX n SA wa, oY n SB RS ra rc wb, oF n SB fa] = true := by
  obtain ⟨h1, h2⟩ := judge_plain (L := [oX n SA wa, oY n SB RS ra rc wb, oF n SB fa]) (by intro e he; simp only [List.mem_cons, List.not_mem_nil, or_false] at he; rcases he with rfl | rfl | rfl; exact .inl rfl; exact .inl rfl; exact .inr rfl) (by simp)
  refine ⟨h1, h2.trans ?_⟩
  rcases hRS with rfl | rfl <;> simp [runs, run, oX, oY, oF, Arr.write, right_upd]
theorem order_q {n : Int} {SA SB : Str} {RS : List Img} {read : Bool} (hA : SA ≠ zero96) (hRS : RS = if read then [⟨n, 0, SA⟩] else []) (wa : Option Addr) (ra : Option Addr) (rc : Nat) (wb fa : Option Addr) :
    cutsErr [oY n SB RS ra rc wb, oX n SA wa, oF n SA fa] = 0 ∧ judgeOk [oY n SB RS ra rc wb, oX n SA wa, oF n SA fa] = !read := by
  obtain ⟨h1, h2⟩ := judge_plain (L := [oY n SB RS ra rc wb, oX n SA wa, oF n SA fa]) (by intro e he; simp only [List.mem_cons, List.not_mem_nil, or_false] at he; rcases he with rfl | rfl | rfl; exact .inl rfl; exact .inl rfl; exact .inr rfl) (by simp)
  refine ⟨h1, h2.trans ?_⟩
  subst hRS
  cases read <;> simp [runs, run, oX, oY, oF, Arr.write, right_upd, wrong_none _ _ _ hA]
theorem order_r {n : Int} {SA SB : Str} {RS : List Img} (hAB : SA ≠ SB) (wa : Option Addr) (ra : Option Addr) (rc : Nat) (wb fa : Option Addr) :
    cutsErr [oY n SB RS ra rc wb, oX n SA wa, oF n SB fa] = 0 ∧ judgeOk [oY n SB RS ra rc wb, oX n SA wa, oF n SB fa] = false := by
  obtain ⟨h1, h2⟩ := judge_plain (L := [oY n SB RS ra rc wb, oX n SA wa, oF n SB fa]) (by intro e he; simp only [List.mem_cons, List.not_mem_nil, or_false] at he; rcases he with rfl | rfl | rfl; exact .inl rfl; exact .inl rfl; exact .inr rfl) (by simp)
  refine ⟨h1, h2.trans ?_⟩
  simp [runs, run, oX, oY, oF, Arr.write, wrong_upd _ _ _ _ _ hAB]

/-- the three events lie in a block of 18 cells, their images in blocks of their own -/
theorem judge_three {w : World} {g : Nat} {a b c : Ev} {r : Bool} (hB : Blk w g ((a.six ++ b.six ++ c.six).toArray) 32) (ha : a.ok ∧ a.lies w) (hb : b.ok ∧ b.lies w) (hc : c.ok ∧ c.lies w) (hj : cutsErr [a, b, c] = 0 ∧ judgeOk [a, b, c] = r) :
    Calls Try.prog 8 #[.slice (some ⟨g, 0, none⟩) 3 3] w fun e w' => e = .returned (.tuple #[.bool r, .int .i64 0]) ∧ Below w.heap.size w w' := by
  refine judge_lit (L := [a, b, c]) hB (by simp) ?_ ?_ (by simp) rfl 3 (Nat.le_refl _) hj
  · intro e he
    simp only [List.mem_cons, List.not_mem_nil, or_false] at he
    rcases he with rfl | rfl | rfl
    · exact ha.1
    · exact hb.1
    · exact hc.1
  · intro e he
    simp only [List.mem_cons, List.not_mem_nil, or_false] at he
    rcases he with rfl | rfl | rfl
    · exact ha.2
    · exact hb.2
    · exact hc.2

/-- what lies where when the histories are judged -/
structure OMem (wx : World) (n : Int) (SA SB : Str) (ra : Option Addr) (rc : Nat) (RS : List Img) (bX bA bB : Nat) : Prop where
  img : ImgsAt wx ra RS
  kA : Blk wx bX #[.int .i64 n, .int .u64 0, .string SA] 29
  kX : Blk wx (bX + 1) #[.int .i64 1, .int .i64 1, .int .u64 1, .int .u64 1, .slice none 0 0, .slice (some ⟨bX, 0, none⟩) 1 1] 32
  kB : Blk wx (bX + 1 + 1) #[.int .i64 n, .int .u64 0, .string SB] 29
  kY : Blk wx (bX + 1 + 1 + 1) #[.int .i64 1, .int .i64 2, .int .u64 2, .int .u64 1, .slice ra RS.length rc, .slice (some ⟨bX + 1 + 1, 0, none⟩) 1 1] 32
  hA : Blk wx bA #[.int .i64 n, .int .u64 0, .string SA] 29
  hB : Blk wx bB #[.int .i64 n, .int .u64 0, .string SB] 29
theorem OMem.chg {wx wy : World} {n : Int} {SA SB : Str} {ra : Option Addr} {rc : Nat} {RS : List Img} {bX bA bB : Nat} (h : OMem wx n SA SB ra rc RS bX bA bB) (hc : Chg [] wx wy) : OMem wy n SA SB ra rc RS bX bA bB :=
  ⟨h.img.chg hc (by simp), h.kA.chg hc (by simp), h.kX.chg hc (by simp), h.kB.chg hc (by simp), h.kY.chg hc (by simp), h.hA.chg hc (by simp), h.hB.chg hc (by simp)⟩

theorem OMem.x {wx : World} {n : Int} {SA SB : Str} {ra : Option Addr} {rc : Nat} {RS : List Img} {bX bA bB : Nat} (h : OMem wx n SA SB ra rc RS bX bA bB) (hn : wf64 n) (hs : SA.size ≤ 1000000) : (oX n SA (some ⟨bX, 0, none⟩)).ok ∧ (oX n SA (some ⟨bX, 0, none⟩)).lies wx :=
  ⟨ok_small (by simp [oX]), imgs_nil _ _, imgs_blk (i := ⟨n, 0, SA⟩) h.kA ⟨hn, wfu64_of (by simp) (by simp), hs⟩⟩
theorem OMem.y {wx : World} {n : Int} {SA SB : Str} {ra : Option Addr} {rc : Nat} {RS : List Img} {bX bA bB : Nat} (h : OMem wx n SA SB ra rc RS bX bA bB) (hn : wf64 n) (hs : SB.size ≤ 1000000) : (oY n SB RS ra rc (some ⟨bX + 1 + 1, 0, none⟩)).ok ∧ (oY n SB RS ra rc (some ⟨bX + 1 + 1, 0, none⟩)).lies wx :=
  ⟨ok_small (by simp [oY]), h.img, imgs_blk (i := ⟨n, 0, SB⟩) h.kB ⟨hn, wfu64_of (by simp) (by simp), hs⟩⟩
theorem Ev.lies.al {w : World} {e : Ev} (h : e.lies w) (o : Obj) : e.lies (w.alloc o) := h.chgN ((Chg.refl [] w).alloc o) (by simp)

/-- two events and a Final, as the walk lays them -/
theorem order3 {w : World} {n : Int} {S : Str} (hn : wf64 n) (hs : S.size ≤ 1000000) {a b : Ev} {r : Bool} (ha : a.ok ∧ a.lies w) (hb : b.ok ∧ b.lies w) (hj : cutsErr [a, b, oF n S (some ⟨w.heap.size, 0, none⟩)] = 0 ∧ judgeOk [a, b, oF n S (some ⟨w.heap.size, 0, none⟩)] = r) {cs : Array Value} (hcs : cs = (a.six ++ b.six ++ (oF n S (some ⟨w.heap.size, 0, none⟩)).six).toArray) :
    Calls Try.prog 8 #[.slice (some ⟨w.heap.size + 1, 0, none⟩) 3 3] ((w.alloc (.cells #[.int .i64 n, .int .u64 0, .string S] 29)).alloc (.cells cs 32)) fun e w' => e = .returned (.tuple #[.bool r, .int .i64 0]) ∧ Chg [] w w' := by
  subst hcs
  have hF := Blk.new w #[.int .i64 n, .int .u64 0, .string S] 29
  refine (judge_three (a := a) (b := b) (c := oF n S (some ⟨w.heap.size, 0, none⟩)) (Blk.newAt _ _ _ (by simp)) ⟨ha.1, (ha.2.al _).al _⟩ ⟨hb.1, (hb.2.al _).al _⟩ ⟨ok_small (by simp [oF]), ?_, imgs_nil _ _⟩ hj).mono fun e w' ⟨he, hbl⟩ => ⟨he, (((Chg.refl [] w).alloc _).alloc _).ofBelow hbl⟩
  exact imgs_blk (i := ⟨n, 0, S⟩) (hF.alloc _) ⟨hn, wfu64_of (by simp) (by simp), hs⟩

set_option maxHeartbeats 1000000 in
set_option maxRecDepth 1000000 in
theorem order_any (w : World) (n : Int) (read : Bool) (hn : wf64 n) : Calls Try.prog 5 #[.int .i64 n, .bool read] w fun e w' => e = .returned (.bool true) ∧ Below w.heap.size w w' := by
  have hr := range64 hn
  by_cases h0 : n < 0
  · go_enter Try.func5, Try.ntmps5
    go_wp2_with fail
    refine (alive_any _).mono ?_
    rintro e w1 ⟨rfl, hb1⟩
    go_wp2_with fail
    go_ret
    exact ⟨rfl, hb1⟩
  by_cases h1 : 100 < n
  · go_enter Try.func5, Try.ntmps5
    go_wp2_with fail
    refine (alive_any _).mono ?_
    rintro e w1 ⟨rfl, hb1⟩
    go_wp2_with fail
    go_ret
    exact ⟨rfl, hb1⟩
  have h2 : 0 ≤ n := by omega
  have h3 : n ≤ 100 := by omega
  clear h0 h1
  go_enter Try.func5, Try.ntmps5
  go_wp2_with fail
  refine (one_any _ _ _).mono ?_
  rintro e w1 ⟨rfl, hb1⟩
  go_wp2_with fail
  refine (one_any _ _ _).mono ?_
  rintro e w2 ⟨rfl, hb2⟩
  go_upto_region 4 with (fail)
  have hC1 : Chg [] w ((w2.alloc (.cells #[.int .i64 n, .int .u64 0, .string (oneStr n)] 29)).alloc (.cells #[.int .i64 n, .int .u64 0, .string (oneStr n)] 29)) := ((((Chg.refl _ w).ofBelow hb1).ofBelow hb2).alloc _).alloc _
  have hA : Blk ((w2.alloc (.cells #[.int .i64 n, .int .u64 0, .string (oneStr n)] 29)).alloc (.cells #[.int .i64 n, .int .u64 0, .string (oneStr n)] 29)) w2.heap.size #[.int .i64 n, .int .u64 0, .string (oneStr n)] 29 := (Blk.new _ _ _).alloc _
  have hB : Blk ((w2.alloc (.cells #[.int .i64 n, .int .u64 0, .string (oneStr n)] 29)).alloc (.cells #[.int .i64 n, .int .u64 0, .string (oneStr n)] 29)) (w2.heap.size + 1) #[.int .i64 n, .int .u64 0, .string (oneStr n)] 29 := Blk.newAt _ _ _ (by simp)
  have hw2 : w.heap.size ≤ w2.heap.size := Nat.le_trans hb1.size hb2.size
  generalize (w2.alloc (.cells #[.int .i64 n, .int .u64 0, .string (oneStr n)] 29)).alloc (.cells #[.int .i64 n, .int .u64 0, .string (oneStr n)] 29) = wA at hC1 hA hB ⊢
  have hne : ¬ w2.heap.size = w2.heap.size + 1 := by omega
  have hne2 : ¬ w2.heap.size + 1 = w2.heap.size := by omega
  have hbB : w.heap.size ≤ w2.heap.size + 1 := by omega
  generalize w2.heap.size = bA at hA hB hw2 hne hne2 hbB ⊢
  generalize bA + 1 = bB at hB hne hne2 hbB ⊢
  have hos := oneStr_size n
  generalize oneStr n = S at hA hB hos ⊢
  go_cut [1] (fun s1 wx => s1 = .bool read ∧ ∃ SA SB : Str, SA ≠ SB ∧ SA ≠ zero96 ∧ SA.size ≤ 1000000 ∧ SB.size ≤ 1000000 ∧ Blk wx bA #[.int .i64 n, .int .u64 0, .string SA] 29 ∧ Blk wx bB #[.int .i64 n, .int .u64 0, .string SB] 29 ∧ Chg [bA, bB] wA wx)
  case first =>
    have c2 := hA.cell 2 rfl
    have d2 := hB.cell 2 rfl
    have c3 := hA.free 2
    have d3 := hB.free 2
    have hos' : S.size = 96 := hos
    go_region
    go_wp2_with fail
    go_meet
    refine ⟨rfl, _, _, head_ne (by decide), head_ne_zero (by decide), ?_, ?_, (hA.set 2 _).setOther ⟨bB, 2, none⟩ hne _, (hB.setOther ⟨bA, 2, none⟩ hne2 _).set 2 _, (((Chg.refl _ wA).setCell ⟨bA, 2, none⟩ (.inl (by simp)) _).setCell ⟨bB, 2, none⟩ (.inl (by simp)) _).drew⟩
    · rw [ByteArray.size_append, ByteArray.size_extract, hos]; decide
    · rw [ByteArray.size_append, ByteArray.size_extract, hos]; decide
  case rest =>
    obtain ⟨rfl, SA, SB, hAB, hA0, hsA, hsB, hA2, hB2, hC2⟩ := hcut
    have hCc := hC1.step hC2 (by simp; omega)
    clear hA hB hC1 hC2 hos
    have hlA := hA2.lt
    have hlB := hB2.lt
    have a0 := hA2.cell 0 rfl
    have a1 := hA2.cell 1 rfl
    have a2 := hA2.cell 2 rfl
    have b0 := hB2.cell 0 rfl
    have b1 := hB2.cell 1 rfl
    have b2 := hB2.cell 2 rfl
    go_upto_if 42 with (fail)
    have kA : Blk ((((wc.alloc (.cells #[.int .i64 n, .int .u64 0, .string SA] 29)).alloc (.cells #[.int .i64 1, .int .i64 1, .int .u64 1, .int .u64 1, .slice none 0 0, .slice (some ⟨wc.heap.size, 0, none⟩) 1 1] 32)).alloc (.cells #[.int .i64 n, .int .u64 0, .string SB] 29)).alloc (.cells #[.int .i64 1, .int .i64 2, .int .u64 2, .int .u64 1, .slice none 0 0, .slice (some ⟨wc.heap.size + 1 + 1, 0, none⟩) 1 1] 32)) wc.heap.size #[.int .i64 n, .int .u64 0, .string SA] 29 := ((((Blk.new _ _ _)).alloc _).alloc _).alloc _
    have kX : Blk ((((wc.alloc (.cells #[.int .i64 n, .int .u64 0, .string SA] 29)).alloc (.cells #[.int .i64 1, .int .i64 1, .int .u64 1, .int .u64 1, .slice none 0 0, .slice (some ⟨wc.heap.size, 0, none⟩) 1 1] 32)).alloc (.cells #[.int .i64 n, .int .u64 0, .string SB] 29)).alloc (.cells #[.int .i64 1, .int .i64 2, .int .u64 2, .int .u64 1, .slice none 0 0, .slice (some ⟨wc.heap.size + 1 + 1, 0, none⟩) 1 1] 32)) (wc.heap.size + 1) #[.int .i64 1, .int .i64 1, .int .u64 1, .int .u64 1, .slice none 0 0, .slice (some ⟨wc.heap.size, 0, none⟩) 1 1] 32 := ((Blk.newAt _ _ _ (by simp)).alloc _).alloc _
    have kB : Blk ((((wc.alloc (.cells #[.int .i64 n, .int .u64 0, .string SA] 29)).alloc (.cells #[.int .i64 1, .int .i64 1, .int .u64 1, .int .u64 1, .slice none 0 0, .slice (some ⟨wc.heap.size, 0, none⟩) 1 1] 32)).alloc (.cells #[.int .i64 n, .int .u64 0, .string SB] 29)).alloc (.cells #[.int .i64 1, .int .i64 2, .int .u64 2, .int .u64 1, .slice none 0 0, .slice (some ⟨wc.heap.size + 1 + 1, 0, none⟩) 1 1] 32)) (wc.heap.size + 1 + 1) #[.int .i64 n, .int .u64 0, .string SB] 29 := (Blk.newAt _ _ _ (by simp)).alloc _
    have kY : Blk ((((wc.alloc (.cells #[.int .i64 n, .int .u64 0, .string SA] 29)).alloc (.cells #[.int .i64 1, .int .i64 1, .int .u64 1, .int .u64 1, .slice none 0 0, .slice (some ⟨wc.heap.size, 0, none⟩) 1 1] 32)).alloc (.cells #[.int .i64 n, .int .u64 0, .string SB] 29)).alloc (.cells #[.int .i64 1, .int .i64 2, .int .u64 2, .int .u64 1, .slice none 0 0, .slice (some ⟨wc.heap.size + 1 + 1, 0, none⟩) 1 1] 32)) (wc.heap.size + 1 + 1 + 1) #[.int .i64 1, .int .i64 2, .int .u64 2, .int .u64 1, .slice none 0 0, .slice (some ⟨wc.heap.size + 1 + 1, 0, none⟩) 1 1] 32 := Blk.newAt _ _ _ (by simp)
    have hA3 : Blk ((((wc.alloc (.cells #[.int .i64 n, .int .u64 0, .string SA] 29)).alloc (.cells #[.int .i64 1, .int .i64 1, .int .u64 1, .int .u64 1, .slice none 0 0, .slice (some ⟨wc.heap.size, 0, none⟩) 1 1] 32)).alloc (.cells #[.int .i64 n, .int .u64 0, .string SB] 29)).alloc (.cells #[.int .i64 1, .int .i64 2, .int .u64 2, .int .u64 1, .slice none 0 0, .slice (some ⟨wc.heap.size + 1 + 1, 0, none⟩) 1 1] 32)) bA _ 29 := (((hA2.alloc _).alloc _).alloc _).alloc _
    have hB3 : Blk ((((wc.alloc (.cells #[.int .i64 n, .int .u64 0, .string SA] 29)).alloc (.cells #[.int .i64 1, .int .i64 1, .int .u64 1, .int .u64 1, .slice none 0 0, .slice (some ⟨wc.heap.size, 0, none⟩) 1 1] 32)).alloc (.cells #[.int .i64 n, .int .u64 0, .string SB] 29)).alloc (.cells #[.int .i64 1, .int .i64 2, .int .u64 2, .int .u64 1, .slice none 0 0, .slice (some ⟨wc.heap.size + 1 + 1, 0, none⟩) 1 1] 32)) bB _ 29 := (((hB2.alloc _).alloc _).alloc _).alloc _
    have hC3 : Chg [] w ((((wc.alloc (.cells #[.int .i64 n, .int .u64 0, .string SA] 29)).alloc (.cells #[.int .i64 1, .int .i64 1, .int .u64 1, .int .u64 1, .slice none 0 0, .slice (some ⟨wc.heap.size, 0, none⟩) 1 1] 32)).alloc (.cells #[.int .i64 n, .int .u64 0, .string SB] 29)).alloc (.cells #[.int .i64 1, .int .i64 2, .int .u64 2, .int .u64 1, .slice none 0 0, .slice (some ⟨wc.heap.size + 1 + 1, 0, none⟩) 1 1] 32)) := (((hCc.alloc _).alloc _).alloc _).alloc _
    have hcs := hCc.size
    have hlX : wc.heap.size + 1 + 1 + 1 < ((((wc.alloc (.cells #[.int .i64 n, .int .u64 0, .string SA] 29)).alloc (.cells #[.int .i64 1, .int .i64 1, .int .u64 1, .int .u64 1, .slice none 0 0, .slice (some ⟨wc.heap.size, 0, none⟩) 1 1] 32)).alloc (.cells #[.int .i64 n, .int .u64 0, .string SB] 29)).alloc (.cells #[.int .i64 1, .int .i64 2, .int .u64 2, .int .u64 1, .slice none 0 0, .slice (some ⟨wc.heap.size + 1 + 1, 0, none⟩) 1 1] 32)).heap.size := kY.lt
    generalize ((((wc.alloc (.cells #[.int .i64 n, .int .u64 0, .string SA] 29)).alloc (.cells #[.int .i64 1, .int .i64 1, .int .u64 1, .int .u64 1, .slice none 0 0, .slice (some ⟨wc.heap.size, 0, none⟩) 1 1] 32)).alloc (.cells #[.int .i64 n, .int .u64 0, .string SB] 29)).alloc (.cells #[.int .i64 1, .int .i64 2, .int .u64 2, .int .u64 1, .slice none 0 0, .slice (some ⟨wc.heap.size + 1 + 1, 0, none⟩) 1 1] 32)) = wD at kA kX kB kY hA3 hB3 hC3 hlX ⊢
    clear hA2 hB2 hCc a0 a1 a2 b0 b1 b2 hlA hlB
    generalize hbX : wc.heap.size = bX at kA kX kB kY hlX hcs ⊢
    clear hbX
    go_cut [1] (fun s1 wx => s1 = .bool read ∧ ∃ (ra : Option Addr) (rc : Nat) (RS : List Img), RS = (if read then [⟨n, 0, SA⟩] else []) ∧ ImgsAt wx ra RS ∧ Blk wx bX #[.int .i64 n, .int .u64 0, .string SA] 29 ∧
      Blk wx (bX + 1) #[.int .i64 1, .int .i64 1, .int .u64 1, .int .u64 1, .slice none 0 0, .slice (some ⟨bX, 0, none⟩) 1 1] 32 ∧ Blk wx (bX + 1 + 1) #[.int .i64 n, .int .u64 0, .string SB] 29 ∧
      Blk wx (bX + 1 + 1 + 1) #[.int .i64 1, .int .i64 2, .int .u64 2, .int .u64 1, .slice ra RS.length rc, .slice (some ⟨bX + 1 + 1, 0, none⟩) 1 1] 32 ∧
      Blk wx bA #[.int .i64 n, .int .u64 0, .string SA] 29 ∧ Blk wx bB #[.int .i64 n, .int .u64 0, .string SB] 29 ∧ Chg [] w wx)
    case first =>
      cases read
      case false =>
        go_wp2_with fail
        go_meet
        exact ⟨rfl, none, 0, [], rfl, imgs_nil _ _, kA, kX, kB, kY, hA3, hB3, hC3⟩
      case true =>
        have a0 := hA3.cell 0 rfl
        have a1 := hA3.cell 1 rfl
        have a2 := hA3.cell 2 rfl
        have y4 := kY.cell 4 rfl
        have z4 := kY.free 4
        have hlA := hA3.lt
        go_wp2_with fail
        go_meet
        have p1 : ¬ bX = bX + 1 + 1 + 1 := by omega
        have p2 : ¬ bX + 1 = bX + 1 + 1 + 1 := by omega
        have p3 : ¬ bX + 1 + 1 = bX + 1 + 1 + 1 := by omega
        have p4 : ¬ bA = bX + 1 + 1 + 1 := blk_ne hA3 kY (by decide)
        have p5 : ¬ bB = bX + 1 + 1 + 1 := blk_ne hB3 kY (by decide)
        refine ⟨rfl, some ⟨wD.heap.size, 0, none⟩, 1, [⟨n, 0, SA⟩], rfl, imgs_blk (i := ⟨n, 0, SA⟩) (Blk.newAt _ _ _ (World.size_setCell _ _ _)) ⟨hn, wfu64_of (by simp) (by simp), hsA⟩, ?_, ?_, ?_, ?_, ?_, ?_, ?_⟩
        · exact (kA.setOther ⟨bX + 1 + 1 + 1, 4, none⟩ p1 _).alloc _
        · exact (kX.setOther ⟨bX + 1 + 1 + 1, 4, none⟩ p2 _).alloc _
        · exact (kB.setOther ⟨bX + 1 + 1 + 1, 4, none⟩ p3 _).alloc _
        · exact (kY.set 4 _).alloc _
        · exact (hA3.setOther ⟨bX + 1 + 1 + 1, 4, none⟩ p4 _).alloc _
        · exact (hB3.setOther ⟨bX + 1 + 1 + 1, 4, none⟩ p5 _).alloc _
        · exact (hC3.setCell ⟨bX + 1 + 1 + 1, 4, none⟩ (.inr (by simp; omega)) _).alloc _
    case rest =>
      clear kA kX kB kY hA3 hB3 hC3 hlX
      obtain ⟨rfl, ra, rc, RS, hRS, hI, kA, kX, kB, kY, hA, hB, hC⟩ := hcut
      have hM : OMem wc n SA SB ra rc RS bX bA bB := ⟨hI, kA, kX, kB, kY, hA, hB⟩
      have hRS2 : RS = [] ∨ RS = [⟨n, 0, SA⟩] := by rw [hRS]; cases read; exact .inl rfl; exact .inr rfl
      have hP := order3 (r := true) hn hsB (hM.x hn hsA) (hM.y hn hsB) (order_p hRS2 _ _ _ _ _) rfl
      have HRS := Lib.hid hRS
      clear hRS hRS2 hI kA kX kB kY hA hB
      have x0 := hM.kX.cell 0 rfl
      have x1 := hM.kX.cell 1 rfl
      have x2 := hM.kX.cell 2 rfl
      have x3 := hM.kX.cell 3 rfl
      have x4 := hM.kX.cell 4 rfl
      have x5 := hM.kX.cell 5 rfl
      have y0 := hM.kY.cell 0 rfl
      have y1 := hM.kY.cell 1 rfl
      have y2 := hM.kY.cell 2 rfl
      have y3 := hM.kY.cell 3 rfl
      have y4 := hM.kY.cell 4 rfl
      have y5 := hM.kY.cell 5 rfl
      have a0 := hM.hA.cell 0 rfl
      have a1 := hM.hA.cell 1 rfl
      have a2 := hM.hA.cell 2 rfl
      have b0 := hM.hB.cell 0 rfl
      have b1 := hM.hB.cell 1 rfl
      have b2 := hM.hB.cell 2 rfl
      have hlA := hM.hA.lt
      have hlB := hM.hB.lt
      have hlY := hM.kY.lt
      go_wp2_with fail
      refine hP.mono ?_
      rintro e w3 ⟨rfl, hC3⟩
      have hCx := hC.step hC3 (by simp)
      have hM2 := hM.chg hC3
      clear x0 x1 x2 x3 x4 x5 y0 y1 y2 y3 y4 y5 a0 a1 a2 b0 b1 b2 hlA hlB hlY hM hP hC hC3
      have x0 := hM2.kX.cell 0 rfl
      have x1 := hM2.kX.cell 1 rfl
      have x2 := hM2.kX.cell 2 rfl
      have x3 := hM2.kX.cell 3 rfl
      have x4 := hM2.kX.cell 4 rfl
      have x5 := hM2.kX.cell 5 rfl
      have y0 := hM2.kY.cell 0 rfl
      have y1 := hM2.kY.cell 1 rfl
      have y2 := hM2.kY.cell 2 rfl
      have y3 := hM2.kY.cell 3 rfl
      have y4 := hM2.kY.cell 4 rfl
      have y5 := hM2.kY.cell 5 rfl
      have a0 := hM2.hA.cell 0 rfl
      have a1 := hM2.hA.cell 1 rfl
      have a2 := hM2.hA.cell 2 rfl
      have b0 := hM2.hB.cell 0 rfl
      have b1 := hM2.hB.cell 1 rfl
      have b2 := hM2.hB.cell 2 rfl
      have hlA := hM2.hA.lt
      have hlB := hM2.hB.lt
      have hlY := hM2.kY.lt
      have hQ := order3 (r := !read) hn hsA (hM2.y hn hsB) (hM2.x hn hsA) (order_q hA0 HRS.out _ _ _ _ _) rfl
      go_wp2_with fail
      refine hQ.mono ?_
      rintro e w4 ⟨rfl, hC4⟩
      have hCy := hCx.step hC4 (by simp)
      have hM3 := hM2.chg hC4
      clear x0 x1 x2 x3 x4 x5 y0 y1 y2 y3 y4 y5 a0 a1 a2 b0 b1 b2 hlA hlB hlY hM2 hQ hCx hC4
      have x0 := hM3.kX.cell 0 rfl
      have x1 := hM3.kX.cell 1 rfl
      have x2 := hM3.kX.cell 2 rfl
      have x3 := hM3.kX.cell 3 rfl
      have x4 := hM3.kX.cell 4 rfl
      have x5 := hM3.kX.cell 5 rfl
      have y0 := hM3.kY.cell 0 rfl
      have y1 := hM3.kY.cell 1 rfl
      have y2 := hM3.kY.cell 2 rfl
      have y3 := hM3.kY.cell 3 rfl
      have y4 := hM3.kY.cell 4 rfl
      have y5 := hM3.kY.cell 5 rfl
      have a0 := hM3.hA.cell 0 rfl
      have a1 := hM3.hA.cell 1 rfl
      have a2 := hM3.hA.cell 2 rfl
      have b0 := hM3.hB.cell 0 rfl
      have b1 := hM3.hB.cell 1 rfl
      have b2 := hM3.hB.cell 2 rfl
      have hlA := hM3.hA.lt
      have hlB := hM3.hB.lt
      have hlY := hM3.kY.lt
      have hR := order3 (r := false) hn hsB (hM3.y hn hsB) (hM3.x hn hsA) (order_r hAB _ _ _ _ _) rfl
      go_wp2_with fail
      refine hR.mono ?_
      rintro e w5 ⟨rfl, hC5⟩
      have hCz := hCy.step hC5 (by simp)
      clear x0 x1 x2 x3 x4 x5 y0 y1 y2 y3 y4 y5 a0 a1 a2 b0 b1 b2 hlA hlB hlY hM3 hR hCy hC5
      go_wp2_with fail
      refine (alive_any _).mono ?_
      rintro e w6 ⟨rfl, hb6⟩
      cases read
      all_goals
        go_wp2_with fail
        go_ret
        exact ⟨rfl, (hCz.ofBelow hb6).below (Nat.le_refl _) (by simp)⟩

theorem order_walk (a0 : Int) (a1 : Bool) (w0 : (Lit.int .i64 a0).wf = true) (w : World) :
    Calls Try.prog 5 #[.int .i64 a0, .bool a1] w fun e w' => e = .returned (.bool true) ∧ Below w.heap.size w w' := order_any w a0 a1 w0

end Go.Proofs.Yteokjobkjmibfaa
