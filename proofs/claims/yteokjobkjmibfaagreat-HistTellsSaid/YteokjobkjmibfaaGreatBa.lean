/- The Book: one list more is kept. Condition: the list is owned by nobody else. Printed by wip/tools/book.py. -/
import Derived.Test.YteokjobkjmibfaaGreatBt
import Derived.Deep.RegionLaw
namespace Go.Proofs.YteokjobkjmibfaaGreat
open Go.RowKit Go.Maps

/-- what keeping one more list leaves -/
def AddPost {α : Type} (K : Kd α) (KK : Kd (Lst α)) (w : World) (base B : Nat) (cs : Array Value) (o : Nat) (P : Part α) (r : Lst α) (e : Ending) (w' : World) : Prop :=
  e = .returned (.tuple #[]) ∧ ∃ (P' : Part α) (cs' : Array Value), (P'.R = P.R ∨ P'.R = P.R ++ [r]) ∧ Blk w' B cs' 43 ∧ cs'[o]? = some (.slice P'.a P'.R.length P'.cap) ∧ cs'[o + 1]? = some (.slice P'.a' P'.R'.length P'.cap') ∧ (∀ i, i ≠ o → i ≠ o + 1 → cs'[i]? = cs[i]?) ∧
    KeepAt K KK w' base P' ∧ Chg (B :: ((blkOf P.a).toList ++ (blkOf P.a').toList)) w w' ∧ (∀ g, blkOf P'.a = some g → blkOf P.a = some g ∨ w.heap.size ≤ g) ∧ (∀ g, blkOf P'.a' = some g → blkOf P.a' = some g ∨ w.heap.size ≤ g) ∧ P'.R.length ≤ 250

theorem AddPost.same {α : Type} {K : Kd α} {KK : Kd (Lst α)} {w : World} {base B : Nat} {cs : Array Value} {o : Nat} {P : Part α} {r : Lst α} (hB : Blk w B cs 43) (h4 : cs[o]? = some (.slice P.a P.R.length P.cap)) (h5 : cs[o + 1]? = some (.slice P.a' P.R'.length P.cap')) (h : KeepAt K KK w base P) (hm : P.R.length ≤ 250) :
    AddPost K KK w base B cs o P r (.returned (.tuple #[])) w :=
  ⟨rfl, P, cs, .inl rfl, hB, h4, h5, fun _ _ _ => rfl, h, Chg.refl _ _, fun _ h => .inl h, fun _ h => .inl h, hm⟩

set_option maxHeartbeats 4000000 in
set_option maxRecDepth 1000000 in
theorem addN_any {w : World} {B base : Nat} {cs : Array Value} {P : Part Int} (hB : Blk w B cs 43) (h4 : cs[4]? = some (.slice P.a P.R.length P.cap)) (h5 : cs[5]? = some (.slice P.a' P.R'.length P.cap')) (h : KeepAt kN kNN w base P) (hbase : base ≤ w.heap.size) (hm : P.R.length ≤ 250)
    {r : Lst Int} (hr : Own kN w r.a r.cap r.L) (hrn : ∀ s ∈ P.R, ∀ g, blkOf s.a = some g → blkOf r.a ≠ some g) (hrb : ∀ g, blkOf r.a = some g → base ≤ g) (hrl : r.L.length ≤ 900000) :
    Calls Tryz.prog 10 #[.pointer (some ⟨B, 0, none⟩), .slice r.a r.L.length r.cap] w (AddPost kN kNN w base B cs 4 P r) := by
  by_cases hlt : P.R.length < 250
  case neg =>
    have HP := Lib.hid (AddPost.same (r := r) hB h4 h5 h hm)
    have c4 := hB.cell 4 h4
    clear hB h4 h5 h hr hrn hrb
    obtain ⟨a, cap, R, a', cap', R'⟩ := P
    simp only at c4 hlt
    go_enter Tryz.func10, Tryz.ntmps10
    go_wp2_with fail
    go_end0
    exact HP.out
  case pos =>
    have hl : P.R'.length = P.R.length := by have := congrArg List.length h.same; simpa using this
    have c4 := hB.cell 4 h4
    have q4 := hB.free 4
    have hcs0 : 5 < cs.size := (Array.getElem?_eq_some_iff.1 h5).1
    obtain ⟨a, cap, R, a', cap', R'⟩ := P
    obtain ⟨ra, rc, rL⟩ := r
    simp only at c4 hlt h4 h5 hm hr hrn hrb hrl hl
    have hSr := hr.src lawN
    have HSR := Lib.hid hSr
    have H := Lib.hid h
    have HR := Lib.hid hr
    have HRN := Lib.hid hrn
    have HRB := Lib.hid hrb
    have HL := Lib.hid hl
    have HB := Lib.hid hB
    have H4 := Lib.hid h4
    have H5 := Lib.hid h5
    have HCS := Lib.hid hcs0
    have hBlt := hB.lt
    have HX : Hid (∀ W : World, Src kNN (W.alloc (.cells #[.slice ra rL.length rc] 23)) (.slice (some ⟨W.heap.size, 0, none⟩) 1 1) [⟨ra, rc, rL⟩]) := Lib.hid (fun W => src_lst pairN (fun _ => trivial) (Blk.new W _ 23))
    have HNB : Hid (some B ≠ blkOf a) := Lib.hid (fun e => by
      obtain ⟨c, hc⟩ := h.rows.row.blk e.symm
      exact blk_ne hc hB pairN.nb.2 rfl)
    have HNB' : Hid (some B ≠ blkOf a') := Lib.hid (fun e => by
      obtain ⟨c, hc⟩ := h.wrow.blk e.symm
      exact blk_ne hc hB pairN.nb.2 rfl)
    have HNE : Hid (∀ g, blkOf a' = some g → g ∉ (blkOf a).toList) := Lib.hid (fun g hg hm => h.ne g (by simpa using hm) hg)
    clear hSr h hr hrn hrb hl hB h4 h5 hcs0
    go_enter Tryz.func10, Tryz.ntmps10
    go_wp2_with (at_builtin; refine wpList_appendK kNN lawNN _ rfl _ _ rfl a cap R.length R rfl rfl (H.out.rows.row.chg ((Chg.refl [] _).alloc _) (by simp)) (by omega) (.slice (some ⟨w.heap.size, 0, none⟩) 1 1) [⟨ra, rc, rL⟩] (R.length + 1) rfl (HX.out w) (by simp) rfl ?_; intro a1 c1 w2 hO1 hg1 hat1 _; have hB2 := (HB.out.alloc (.cells #[.slice ra rL.length rc] 23)).grown hg1 HNB.out; have c4b := hB2.cell 4 H4.out; have q4b := hB2.free 4)
    have hc2 : Chg (blkOf a).toList w w2 := ((Chg.refl _ w).alloc (.cells #[.slice ra rL.length rc] 23)).grown hg1 (fun k hk => .inl (by simp [hk]))
    have hcS : Chg [B] w2 (w2.setCell ⟨B, 4, none⟩ (.slice a1 (R.length + 1) c1)) := (Chg.refl _ _).setCell _ (.inl (by simp)) _
    have hBs := hB2.set 4 (.slice a1 (R.length + 1) c1)
    have hc5 : (cs.setIfInBounds 4 (.slice a1 (R.length + 1) c1))[5]? = some (.slice a' R'.length cap') := by
      rw [Array.getElem?_setIfInBounds_ne (by decide)]; exact H5.out
    have w2' : Own kNN w2 a' cap' R' := (H.out.wrow).chg hc2 HNE.out
    have wS : Own kNN (w2.setCell ⟨B, 4, none⟩ (.slice a1 (R.length + 1) c1)) a' cap' R' := w2'.chg hcS (fun g hg hm => HNB'.out (by rw [hg]; simp at hm; rw [hm]))
    have r2 : Own kN w2 ra rc rL := (HR.out).chg hc2 (fun g hg hm => by
      obtain ⟨x1, y1⟩ := HR.out.blk hg
      obtain ⟨x2, y2⟩ := H.out.rows.row.blk (g := g) (by simpa using hm)
      exact blk_ne y1 y2 pairN.ne rfl)
    have rS : Own kN (w2.setCell ⟨B, 4, none⟩ (.slice a1 (R.length + 1) c1)) ra rc rL := r2.chg hcS (fun g hg hm => by
      simp at hm
      subst hm
      obtain ⟨x1, y1⟩ := r2.blk hg
      exact blk_ne y1 hB2 pairN.nb.1 rfl)
    have hBf := hBs.free 5
    have hBc := hBs.cell 5 hc5
    have HO1 := Lib.hid hO1
    have HG1 := Lib.hid hg1
    have HAT1 := Lib.hid hat1
    have HBS := Lib.hid hBs
    have HC5 := Lib.hid hc5
    have WS := Lib.hid wS
    have RS := Lib.hid (rS.src lawN)
    obtain ⟨W, hW⟩ : ∃ W, w2.setCell ⟨B, 4, none⟩ (.slice a1 (R.length + 1) c1) = W := ⟨_, rfl⟩
    have HW := Lib.hid hW
    rw [hW] at hBf hBc HBS WS RS
    clear hO1 hg1 hat1 hBs hc5 wS r2 rS w2' hcS hc2 hB2 c4b q4b c4 q4
    try go_wp2_with fail
    simp only [hW]
    rw [HL.out] at hBc
    clear hW
    go_region_law ((first
      | (refine step_appendK kNN lawNN _ (by rfl) _ _ (by rfl) a' cap' R.length R' HL.out (by rfl) (WS.out.chg (hC3'.alloc (.cells #[.slice a3 rL.length c3] 23)) (by simp)) (by rw [HL.out]; omega) (.slice (some ⟨w3.heap.size, 0, none⟩) 1 1) [⟨a3, c3, rL⟩] (R.length + 1) (by rfl) (src_lst pairN (fun _ => trivial) (Blk.new w3 _ 23)) (by simp) (by rfl) ?_; intro a4 c4 w4 hO4 hg4 hat4 hk4; have hB4 := (HBS.out.chg (hC3'.alloc (.cells #[.slice a3 rL.length c3] 23)) (by simp)).grown hg4 HNB'.out; have k5 := hB4.cell 5 HC5.out; have k5f := hB4.free 5; have HK4 := Lib.hid hk4; clear hk4)
      | (go_simp; refine (copyN_any (RS.out.chg0 lawN (Chg.refl [] W).drew) rfl (by omega)).mono ?_; rintro e w3 ⟨a3, c3, rfl, hO3, hn3, hC3⟩; dsimp only; have hC3' := ((Chg.refl [] W).drew).trans hC3; have hBc3 := (hC3'.cell (lt_of_cell hBc) (by simp)).trans hBc; have hb3 := (HBS.out.chg hC3' (by simp)).lt; have HO3 := Lib.hid hO3; clear hO3 hn3)
      | (fail)))
    all_goals
      have HO4 := Lib.hid hO4
      have HG4 := Lib.hid hg4
      have HAT4 := Lib.hid hat4
      have HB4 := Lib.hid hB4
      clear hO4 hg4 hat4 hB4 k5 k5f
      go_end0
      have hadd := KeepAt.add pairN H.out (r := ⟨ra, rc, rL⟩) HR.out HRN.out HRB.out hrl HB.out hbase (w5 := w4.setCell ⟨B, 5, none⟩ (.slice a4 (R.length + 1) c4)) ((Chg.refl [] w).alloc (.cells #[.slice ra rL.length rc] 23)) HO1.out HG1.out HAT1.out (o1 := 4) (v1 := .slice a1 (R.length + 1) c1) (by rw [HW.out]; exact hC3'.alloc (.cells #[.slice a3 rL.length c3] 23)) (HO3.out.chg ((Chg.refl [] w3).alloc _) (by simp)) HO4.out HG4.out HAT4.out (o4 := 5) (v4 := .slice a4 (R.length + 1) c4) rfl
      refine ⟨rfl, ⟨a1, c1, R ++ [⟨ra, rc, rL⟩], a4, c4, R' ++ [⟨a3, c3, rL⟩]⟩, (cs.setIfInBounds 4 (.slice a1 (R.length + 1) c1)).setIfInBounds 5 (.slice a4 (R.length + 1) c4), .inr rfl, HB4.out.set 5 _, ?_, ?_, fun i h1 h2 => ?_, hadd.1, hadd.2.1, hadd.2.2.1, hadd.2.2.2, by simp; omega⟩
      · rw [Array.getElem?_setIfInBounds_ne (by decide), Array.getElem?_setIfInBounds_self_of_lt (by have := HCS.out; omega)]
        simp
      · rw [Array.getElem?_setIfInBounds_self_of_lt (by simpa using HCS.out)]
        simp [HL.out]
      · rw [Array.getElem?_setIfInBounds_ne (by omega), Array.getElem?_setIfInBounds_ne (by omega)]

set_option maxHeartbeats 4000000 in
set_option maxRecDepth 1000000 in
theorem addM_any {w : World} {B base : Nat} {cs : Array Value} {P : Part Img} (hB : Blk w B cs 43) (h4 : cs[10]? = some (.slice P.a P.R.length P.cap)) (h5 : cs[11]? = some (.slice P.a' P.R'.length P.cap')) (h : KeepAt kM kMM w base P) (hbase : base ≤ w.heap.size) (hm : P.R.length ≤ 250)
    {r : Lst Img} (hr : Own kM w r.a r.cap r.L) (hrn : ∀ s ∈ P.R, ∀ g, blkOf s.a = some g → blkOf r.a ≠ some g) (hrb : ∀ g, blkOf r.a = some g → base ≤ g) (hrl : r.L.length ≤ 900000) :
    Calls Tryz.prog 14 #[.pointer (some ⟨B, 0, none⟩), .slice r.a r.L.length r.cap] w (AddPost kM kMM w base B cs 10 P r) := by
  by_cases hlt : P.R.length < 250
  case neg =>
    have HP := Lib.hid (AddPost.same (r := r) hB h4 h5 h hm)
    have c4 := hB.cell 10 h4
    clear hB h4 h5 h hr hrn hrb
    obtain ⟨a, cap, R, a', cap', R'⟩ := P
    simp only at c4 hlt
    go_enter Tryz.func14, Tryz.ntmps14
    go_wp2_with fail
    go_end0
    exact HP.out
  case pos =>
    have hl : P.R'.length = P.R.length := by have := congrArg List.length h.same; simpa using this
    have c4 := hB.cell 10 h4
    have q4 := hB.free 10
    have hcs0 : 11 < cs.size := (Array.getElem?_eq_some_iff.1 h5).1
    obtain ⟨a, cap, R, a', cap', R'⟩ := P
    obtain ⟨ra, rc, rL⟩ := r
    simp only at c4 hlt h4 h5 hm hr hrn hrb hrl hl
    have hSr := hr.src lawM
    have HSR := Lib.hid hSr
    have H := Lib.hid h
    have HR := Lib.hid hr
    have HRN := Lib.hid hrn
    have HRB := Lib.hid hrb
    have HL := Lib.hid hl
    have HB := Lib.hid hB
    have H4 := Lib.hid h4
    have H5 := Lib.hid h5
    have HCS := Lib.hid hcs0
    have hBlt := hB.lt
    have HX : Hid (∀ W : World, Src kMM (W.alloc (.cells #[.slice ra rL.length rc] 53)) (.slice (some ⟨W.heap.size, 0, none⟩) 1 1) [⟨ra, rc, rL⟩]) := Lib.hid (fun W => src_lst pairM (fun _ => trivial) (Blk.new W _ 53))
    have HNB : Hid (some B ≠ blkOf a) := Lib.hid (fun e => by
      obtain ⟨c, hc⟩ := h.rows.row.blk e.symm
      exact blk_ne hc hB pairM.nb.2 rfl)
    have HNB' : Hid (some B ≠ blkOf a') := Lib.hid (fun e => by
      obtain ⟨c, hc⟩ := h.wrow.blk e.symm
      exact blk_ne hc hB pairM.nb.2 rfl)
    have HNE : Hid (∀ g, blkOf a' = some g → g ∉ (blkOf a).toList) := Lib.hid (fun g hg hm => h.ne g (by simpa using hm) hg)
    clear hSr h hr hrn hrb hl hB h4 h5 hcs0
    go_enter Tryz.func14, Tryz.ntmps14
    go_wp2_with (at_builtin; refine wpList_appendK kMM lawMM _ rfl _ _ rfl a cap R.length R rfl rfl (H.out.rows.row.chg ((Chg.refl [] _).alloc _) (by simp)) (by omega) (.slice (some ⟨w.heap.size, 0, none⟩) 1 1) [⟨ra, rc, rL⟩] (R.length + 1) rfl (HX.out w) (by simp) rfl ?_; intro a1 c1 w2 hO1 hg1 hat1 _; have hB2 := (HB.out.alloc (.cells #[.slice ra rL.length rc] 53)).grown hg1 HNB.out; have c4b := hB2.cell 10 H4.out; have q4b := hB2.free 10)
    have hc2 : Chg (blkOf a).toList w w2 := ((Chg.refl _ w).alloc (.cells #[.slice ra rL.length rc] 53)).grown hg1 (fun k hk => .inl (by simp [hk]))
    have hcS : Chg [B] w2 (w2.setCell ⟨B, 10, none⟩ (.slice a1 (R.length + 1) c1)) := (Chg.refl _ _).setCell _ (.inl (by simp)) _
    have hBs := hB2.set 10 (.slice a1 (R.length + 1) c1)
    have hc5 : (cs.setIfInBounds 10 (.slice a1 (R.length + 1) c1))[11]? = some (.slice a' R'.length cap') := by
      rw [Array.getElem?_setIfInBounds_ne (by decide)]; exact H5.out
    have w2' : Own kMM w2 a' cap' R' := (H.out.wrow).chg hc2 HNE.out
    have wS : Own kMM (w2.setCell ⟨B, 10, none⟩ (.slice a1 (R.length + 1) c1)) a' cap' R' := w2'.chg hcS (fun g hg hm => HNB'.out (by rw [hg]; simp at hm; rw [hm]))
    have r2 : Own kM w2 ra rc rL := (HR.out).chg hc2 (fun g hg hm => by
      obtain ⟨x1, y1⟩ := HR.out.blk hg
      obtain ⟨x2, y2⟩ := H.out.rows.row.blk (g := g) (by simpa using hm)
      exact blk_ne y1 y2 pairM.ne rfl)
    have rS : Own kM (w2.setCell ⟨B, 10, none⟩ (.slice a1 (R.length + 1) c1)) ra rc rL := r2.chg hcS (fun g hg hm => by
      simp at hm
      subst hm
      obtain ⟨x1, y1⟩ := r2.blk hg
      exact blk_ne y1 hB2 pairM.nb.1 rfl)
    have hBf := hBs.free 11
    have hBc := hBs.cell 11 hc5
    have HO1 := Lib.hid hO1
    have HG1 := Lib.hid hg1
    have HAT1 := Lib.hid hat1
    have HBS := Lib.hid hBs
    have HC5 := Lib.hid hc5
    have WS := Lib.hid wS
    have RS := Lib.hid (rS.src lawM)
    obtain ⟨W, hW⟩ : ∃ W, w2.setCell ⟨B, 10, none⟩ (.slice a1 (R.length + 1) c1) = W := ⟨_, rfl⟩
    have HW := Lib.hid hW
    rw [hW] at hBf hBc HBS WS RS
    clear hO1 hg1 hat1 hBs hc5 wS r2 rS w2' hcS hc2 hB2 c4b q4b c4 q4
    try go_wp2_with fail
    simp only [hW]
    rw [HL.out] at hBc
    clear hW
    go_region_law ((first
      | (refine step_appendK kMM lawMM _ (by rfl) _ _ (by rfl) a' cap' R.length R' HL.out (by rfl) (WS.out.chg (hC3'.alloc (.cells #[.slice a3 rL.length c3] 53)) (by simp)) (by rw [HL.out]; omega) (.slice (some ⟨w3.heap.size, 0, none⟩) 1 1) [⟨a3, c3, rL⟩] (R.length + 1) (by rfl) (src_lst pairM (fun _ => trivial) (Blk.new w3 _ 53)) (by simp) (by rfl) ?_; intro a4 c4 w4 hO4 hg4 hat4 hk4; have hB4 := (HBS.out.chg (hC3'.alloc (.cells #[.slice a3 rL.length c3] 53)) (by simp)).grown hg4 HNB'.out; have k5 := hB4.cell 11 HC5.out; have k5f := hB4.free 11; have HK4 := Lib.hid hk4; clear hk4)
      | (go_simp; refine (copyM_any (RS.out.chg0 lawM (Chg.refl [] W).drew) rfl (by omega)).mono ?_; rintro e w3 ⟨a3, c3, rfl, hO3, hn3, hC3⟩; dsimp only; have hC3' := ((Chg.refl [] W).drew).trans hC3; have hBc3 := (hC3'.cell (lt_of_cell hBc) (by simp)).trans hBc; have hb3 := (HBS.out.chg hC3' (by simp)).lt; have HO3 := Lib.hid hO3; clear hO3 hn3)
      | (fail)))
    all_goals
      have HO4 := Lib.hid hO4
      have HG4 := Lib.hid hg4
      have HAT4 := Lib.hid hat4
      have HB4 := Lib.hid hB4
      clear hO4 hg4 hat4 hB4 k5 k5f
      go_end0
      have hadd := KeepAt.add pairM H.out (r := ⟨ra, rc, rL⟩) HR.out HRN.out HRB.out hrl HB.out hbase (w5 := w4.setCell ⟨B, 11, none⟩ (.slice a4 (R.length + 1) c4)) ((Chg.refl [] w).alloc (.cells #[.slice ra rL.length rc] 53)) HO1.out HG1.out HAT1.out (o1 := 10) (v1 := .slice a1 (R.length + 1) c1) (by rw [HW.out]; exact hC3'.alloc (.cells #[.slice a3 rL.length c3] 53)) (HO3.out.chg ((Chg.refl [] w3).alloc _) (by simp)) HO4.out HG4.out HAT4.out (o4 := 11) (v4 := .slice a4 (R.length + 1) c4) rfl
      refine ⟨rfl, ⟨a1, c1, R ++ [⟨ra, rc, rL⟩], a4, c4, R' ++ [⟨a3, c3, rL⟩]⟩, (cs.setIfInBounds 10 (.slice a1 (R.length + 1) c1)).setIfInBounds 11 (.slice a4 (R.length + 1) c4), .inr rfl, HB4.out.set 11 _, ?_, ?_, fun i h1 h2 => ?_, hadd.1, hadd.2.1, hadd.2.2.1, hadd.2.2.2, by simp; omega⟩
      · rw [Array.getElem?_setIfInBounds_ne (by decide), Array.getElem?_setIfInBounds_self_of_lt (by have := HCS.out; omega)]
        simp
      · rw [Array.getElem?_setIfInBounds_self_of_lt (by simpa using HCS.out)]
        simp [HL.out]
      · rw [Array.getElem?_setIfInBounds_ne (by omega), Array.getElem?_setIfInBounds_ne (by omega)]

end Go.Proofs.YteokjobkjmibfaaGreat
