/- The Book: is each list as it was, and does each bear its own marks? Condition: the lists are kept. Printed by wip/tools/book.py. -/
import Derived.Test.YteokjobkjmibfaaGreatBw
namespace Go.Proofs.YteokjobkjmibfaaGreat
open Go.RowKit Go.Maps

set_option maxHeartbeats 2000000 in
theorem stillN_any {w : World} {B base : Nat} {cs : Array Value} {P : Part Int} (hB : Blk w B cs 43) (h4 : cs[4]? = some (.slice P.a P.R.length P.cap)) (h5 : cs[5]? = some (.slice P.a' P.R'.length P.cap')) (h : KeepAt kN kNN w base P) (hm : P.R.length ≤ 1000000) :
    Calls Tryz.prog 39 #[.pointer (some ⟨B, 0, none⟩)] w fun e w' => e = .returned (.bool true) ∧ Chg [] w w' := by
  obtain ⟨a, cap, R, a', cap', R'⟩ := P
  simp only at h4 h5 hm
  have hl : R'.length = R.length := by have := congrArg List.length h.same; simpa using this
  have hL : ∀ k, k < R.length → (R'.getD k default).L = (R.getD k default).L := fun k hk => by
    have h1 := congrArg (fun l : List (List Int) => l.getD k []) h.same
    simpa [List.getD_eq_getElem?_getD, List.getElem?_eq_getElem hk, List.getElem?_eq_getElem (show k < R'.length by omega)] using h1
  have HLL := Lib.hid hL
  have H := Lib.hid h
  have HL := Lib.hid hl
  have HB := Lib.hid hB
  have H4 := Lib.hid h4
  have H5 := Lib.hid h5
  have hc0 := hB.cell 4 h4
  clear h hl hL hB h4 h5
  go_enter Tryz.func39, Tryz.ntmps39
  go_wp2_with fail
  go_loopg [3] R.length (fun q s3 wr => ∃ k : Nat, k ≤ R.length ∧ q = R.length - k ∧ s3 = .int .i64 k ∧ Chg [] w wr)
  case atStart => exact ⟨0, Nat.zero_le _, rfl, rfl, Chg.refl _ _⟩
  case round =>
    obtain ⟨k, hk, rfl, rfl, hC⟩ := hrel
    have hBr := HB.out.chg hC (by simp)
    have c4 := hBr.cell 4 H4.out
    have c5 := hBr.cell 5 H5.out
    clear hBr hc0
    by_cases hlt : k < R.length
    case neg =>
      obtain rfl : k = R.length := by omega
      go_wp2_with fail
      go_ret
      exact ⟨rfl, hC⟩
    case pos =>
      have Hr := H.out.chg0 hC
      obtain ⟨g, rfl, hcap, v1⟩ := Hr.rows.row.val pairN hlt
      obtain ⟨g', rfl, hcap', v2⟩ := Hr.wrow.val pairN (show k < R'.length by rw [HL.out]; exact hlt)
      have o1 := Hr.rows.each _ (getD_mem hlt)
      have o2 := Hr.weach _ (getD_mem (show k < R'.length by rw [HL.out]; exact hlt))
      have hsh := Hr.rows.short _ (getD_mem hlt)
      have hLk := HLL.out k hlt
      generalize R.getD k default = r at v1 o1 hsh hLk
      simp only at v2 o2
      generalize R'.getD k default = r' at v2 o2 hLk
      obtain ⟨ra, rc, rL⟩ := r
      obtain ⟨ra', rc', rL'⟩ := r'
      simp only at o1 o2 hsh hLk
      subst hLk
      simp only [Lst.val] at v1 v2
      rw [HL.out] at c5
      have e1 : (0 : Int) ≤ (k : Int) := by omega
      have e2 : (k : Int) < (R.length : Int) := by omega
      have e3 : (k : Int) < (R'.length : Int) := by rw [HL.out]; omega
      have O1 := Lib.hid (o1.rd lawN)
      have O2 := Lib.hid (o2.rd lawN)
      clear Hr o1 o2 hcap hcap' e3
      go_wp2_with fail
      go_region_held3 (fun w' => w'.cell? ⟨B, 4, none⟩ = some (.slice (some ⟨g, 0, none⟩) R.length cap) ∧ w'.cell? ⟨B, 5, none⟩ = some (.slice (some ⟨g', 0, none⟩) R.length cap') ∧ w'.cell? ⟨g, k, none⟩ = some (.slice ra rL'.length rc) ∧ w'.cell? ⟨g', k, none⟩ = some (.slice ra' rL'.length rc'))
        (first | (refine ⟨(hC6.cell (lt_of_cell c4) (by simp)).trans c4, (hC6.cell (lt_of_cell c5) (by simp)).trans c5, (hC6.cell (lt_of_cell v1) (by simp)).trans v1, (hC6.cell (lt_of_cell v2) (by simp)).trans v2⟩) | go_keep)
        (first | (go_at_call 11; refine (sameN_yes (O1.out.chg0 lawN (Chg.refl [] wr).drew) (O2.out.chg0 lawN (Chg.refl [] wr).drew) (by omega) rc rc').mono ?_; rintro e w6 ⟨rfl, hC5⟩; have hC6 := ((Chg.refl [] wr).drew).trans hC5) | (fail))
      all_goals
        go_wp2_with fail
        go_roundg (R.length - (k + 1))
        case measure => omega
        case rel => exact ⟨k + 1, by omega, rfl, by go_num, hC.trans hC6⟩

theorem markN_0 (w : World) {i n : Nat} (hi : i ≤ 1000) (hn : n ≤ 1000000) :
    Calls Tryz.prog 125 #[.int .i64 i, .int .i64 0, .int .i64 n] w fun e w' => ∃ (a : Option Addr) (cap : Nat), e = .returned (.slice a n cap) ∧ Own kN w' a cap (mksN i 0 n) ∧ (∀ g, blkOf a = some g → w.heap.size ≤ g) ∧ Chg [] w w' :=
  markN_any w (f := 0) hi (by omega) hn

set_option maxHeartbeats 2000000 in
theorem markedN_any {w : World} {a : Option Addr} {G : List (Lst Int)} (h : Marked kN kNN mksN w a G) (hm : G.length ≤ 1000) (cap : Nat) :
    Calls Tryz.prog 84 #[.slice a G.length cap] w fun e w' => e = .returned (.bool true) ∧ Chg [] w w' := by
  have H := Lib.hid h
  clear h
  go_enter Tryz.func84, Tryz.ntmps84
  go_wp2_with fail
  go_loopg [3] G.length (fun q s3 wr => ∃ k : Nat, k ≤ G.length ∧ q = G.length - k ∧ s3 = .int .i64 k ∧ Chg [] w wr)
  case atStart => exact ⟨0, Nat.zero_le _, rfl, rfl, Chg.refl _ _⟩
  case round =>
    obtain ⟨k, hk, rfl, rfl, hC⟩ := hrel
    by_cases hlt : k < G.length
    case neg =>
      obtain rfl : k = G.length := by omega
      go_wp2_with fail
      go_ret
      exact ⟨rfl, hC⟩
    case pos =>
      have Hr := H.out.chg0 pairN hC
      obtain ⟨g, o, rfl, v1⟩ := Hr.rd.val pairN hlt
      obtain ⟨f1, f2, hsh, _⟩ := Hr.each k hlt
      generalize G.getD k default = r at v1 f1 f2 hsh
      obtain ⟨ra, rc, rL⟩ := r
      simp only at f1 f2 hsh
      simp only [Lst.val] at v1
      have F1 := Lib.hid f1
      have F2 := Lib.hid f2
      have e1 : (0 : Int) ≤ (k : Int) := by omega
      have e2 : (k : Int) < (G.length : Int) := by omega
      clear Hr f1 f2
      go_wp2_with fail
      go_region_held3 (fun w' => w'.cell? ⟨g, o + k, none⟩ = some (.slice ra rL.length rc))
        (first | (exact (hC7.cell (lt_of_cell v1) (by simp)).trans v1) | (exact (hC6.cell (lt_of_cell v1) (by simp)).trans v1) | go_keep)
        (first
          | (go_at_call 125; refine (markN_0 _ (by omega) hsh).mono ?_; rintro e w6 ⟨a6, c6, rfl, hO6, hn6, hC5⟩; have hC6 := ((Chg.refl [] wr).drew).trans hC5; have HO6 := Lib.hid hO6; clear hO6 hn6)
          | (go_at_call 11; refine (sameN_yes (F2.out.chg0 lawN hC6) (by rw [F1.out]; exact HO6.out.rd lawN) hsh rc c6).mono ?_; rintro e w7 ⟨rfl, hC8⟩; have hC7 := hC6.trans hC8)
          | (fail))
      all_goals
        go_wp2_with fail
        go_roundg (G.length - (k + 1))
        case measure => omega
        case rel => exact ⟨k + 1, by omega, rfl, by go_num, hC.trans hC7⟩

set_option maxHeartbeats 2000000 in
theorem stillM_any {w : World} {B base : Nat} {cs : Array Value} {P : Part Img} (hB : Blk w B cs 43) (h4 : cs[10]? = some (.slice P.a P.R.length P.cap)) (h5 : cs[11]? = some (.slice P.a' P.R'.length P.cap')) (h : KeepAt kM kMM w base P) (hm : P.R.length ≤ 1000000) :
    Calls Tryz.prog 42 #[.pointer (some ⟨B, 0, none⟩)] w fun e w' => e = .returned (.bool true) ∧ Chg [] w w' := by
  obtain ⟨a, cap, R, a', cap', R'⟩ := P
  simp only at h4 h5 hm
  have hl : R'.length = R.length := by have := congrArg List.length h.same; simpa using this
  have hL : ∀ k, k < R.length → (R'.getD k default).L = (R.getD k default).L := fun k hk => by
    have h1 := congrArg (fun l : List (List Img) => l.getD k []) h.same
    simpa [List.getD_eq_getElem?_getD, List.getElem?_eq_getElem hk, List.getElem?_eq_getElem (show k < R'.length by omega)] using h1
  have HLL := Lib.hid hL
  have H := Lib.hid h
  have HL := Lib.hid hl
  have HB := Lib.hid hB
  have H4 := Lib.hid h4
  have H5 := Lib.hid h5
  have hc0 := hB.cell 10 h4
  clear h hl hL hB h4 h5
  go_enter Tryz.func42, Tryz.ntmps42
  go_wp2_with fail
  go_loopg [3] R.length (fun q s3 wr => ∃ k : Nat, k ≤ R.length ∧ q = R.length - k ∧ s3 = .int .i64 k ∧ Chg [] w wr)
  case atStart => exact ⟨0, Nat.zero_le _, rfl, rfl, Chg.refl _ _⟩
  case round =>
    obtain ⟨k, hk, rfl, rfl, hC⟩ := hrel
    have hBr := HB.out.chg hC (by simp)
    have c4 := hBr.cell 10 H4.out
    have c5 := hBr.cell 11 H5.out
    clear hBr hc0
    by_cases hlt : k < R.length
    case neg =>
      obtain rfl : k = R.length := by omega
      go_wp2_with fail
      go_ret
      exact ⟨rfl, hC⟩
    case pos =>
      have Hr := H.out.chg0 hC
      obtain ⟨g, rfl, hcap, v1⟩ := Hr.rows.row.val pairM hlt
      obtain ⟨g', rfl, hcap', v2⟩ := Hr.wrow.val pairM (show k < R'.length by rw [HL.out]; exact hlt)
      have o1 := Hr.rows.each _ (getD_mem hlt)
      have o2 := Hr.weach _ (getD_mem (show k < R'.length by rw [HL.out]; exact hlt))
      have hsh := Hr.rows.short _ (getD_mem hlt)
      have hLk := HLL.out k hlt
      generalize R.getD k default = r at v1 o1 hsh hLk
      simp only at v2 o2
      generalize R'.getD k default = r' at v2 o2 hLk
      obtain ⟨ra, rc, rL⟩ := r
      obtain ⟨ra', rc', rL'⟩ := r'
      simp only at o1 o2 hsh hLk
      subst hLk
      simp only [Lst.val] at v1 v2
      rw [HL.out] at c5
      have e1 : (0 : Int) ≤ (k : Int) := by omega
      have e2 : (k : Int) < (R.length : Int) := by omega
      have e3 : (k : Int) < (R'.length : Int) := by rw [HL.out]; omega
      have O1 := Lib.hid (o1.rd lawM)
      have O2 := Lib.hid (o2.rd lawM)
      clear Hr o1 o2 hcap hcap' e3
      go_wp2_with fail
      go_region_held3 (fun w' => w'.cell? ⟨B, 10, none⟩ = some (.slice (some ⟨g, 0, none⟩) R.length cap) ∧ w'.cell? ⟨B, 11, none⟩ = some (.slice (some ⟨g', 0, none⟩) R.length cap') ∧ w'.cell? ⟨g, k, none⟩ = some (.slice ra rL'.length rc) ∧ w'.cell? ⟨g', k, none⟩ = some (.slice ra' rL'.length rc'))
        (first | (refine ⟨(hC6.cell (lt_of_cell c4) (by simp)).trans c4, (hC6.cell (lt_of_cell c5) (by simp)).trans c5, (hC6.cell (lt_of_cell v1) (by simp)).trans v1, (hC6.cell (lt_of_cell v2) (by simp)).trans v2⟩) | go_keep)
        (first | (go_at_call 15; refine (sameM_yes (O1.out.chg0 lawM (Chg.refl [] wr).drew) (O2.out.chg0 lawM (Chg.refl [] wr).drew) (by omega) rc rc').mono ?_; rintro e w6 ⟨rfl, hC5⟩; have hC6 := ((Chg.refl [] wr).drew).trans hC5) | (fail))
      all_goals
        go_wp2_with fail
        go_roundg (R.length - (k + 1))
        case measure => omega
        case rel => exact ⟨k + 1, by omega, rfl, by go_num, hC.trans hC6⟩

theorem markM_0 (w : World) {i n : Nat} (hi : i ≤ 1000) (hn : n ≤ 1000000) :
    Calls Tryz.prog 128 #[.int .i64 i, .int .i64 0, .int .i64 n] w fun e w' => ∃ (a : Option Addr) (cap : Nat), e = .returned (.slice a n cap) ∧ Own kM w' a cap (mksM i 0 n) ∧ (∀ g, blkOf a = some g → w.heap.size ≤ g) ∧ Chg [] w w' :=
  markM_any w (f := 0) hi (by omega) hn

set_option maxHeartbeats 2000000 in
theorem markedM_any {w : World} {a : Option Addr} {G : List (Lst Img)} (h : Marked kM kMM mksM w a G) (hm : G.length ≤ 1000) (cap : Nat) :
    Calls Tryz.prog 87 #[.slice a G.length cap] w fun e w' => e = .returned (.bool true) ∧ Chg [] w w' := by
  have H := Lib.hid h
  clear h
  go_enter Tryz.func87, Tryz.ntmps87
  go_wp2_with fail
  go_loopg [3] G.length (fun q s3 wr => ∃ k : Nat, k ≤ G.length ∧ q = G.length - k ∧ s3 = .int .i64 k ∧ Chg [] w wr)
  case atStart => exact ⟨0, Nat.zero_le _, rfl, rfl, Chg.refl _ _⟩
  case round =>
    obtain ⟨k, hk, rfl, rfl, hC⟩ := hrel
    by_cases hlt : k < G.length
    case neg =>
      obtain rfl : k = G.length := by omega
      go_wp2_with fail
      go_ret
      exact ⟨rfl, hC⟩
    case pos =>
      have Hr := H.out.chg0 pairM hC
      obtain ⟨g, o, rfl, v1⟩ := Hr.rd.val pairM hlt
      obtain ⟨f1, f2, hsh, _⟩ := Hr.each k hlt
      generalize G.getD k default = r at v1 f1 f2 hsh
      obtain ⟨ra, rc, rL⟩ := r
      simp only at f1 f2 hsh
      simp only [Lst.val] at v1
      have F1 := Lib.hid f1
      have F2 := Lib.hid f2
      have e1 : (0 : Int) ≤ (k : Int) := by omega
      have e2 : (k : Int) < (G.length : Int) := by omega
      clear Hr f1 f2
      go_wp2_with fail
      go_region_held3 (fun w' => w'.cell? ⟨g, o + k, none⟩ = some (.slice ra rL.length rc))
        (first | (exact (hC7.cell (lt_of_cell v1) (by simp)).trans v1) | (exact (hC6.cell (lt_of_cell v1) (by simp)).trans v1) | go_keep)
        (first
          | (go_at_call 128; refine (markM_0 _ (by omega) hsh).mono ?_; rintro e w6 ⟨a6, c6, rfl, hO6, hn6, hC5⟩; have hC6 := ((Chg.refl [] wr).drew).trans hC5; have HO6 := Lib.hid hO6; clear hO6 hn6)
          | (go_at_call 15; refine (sameM_yes (F2.out.chg0 lawM hC6) (by rw [F1.out]; exact HO6.out.rd lawM) hsh rc c6).mono ?_; rintro e w7 ⟨rfl, hC8⟩; have hC7 := hC6.trans hC8)
          | (fail))
      all_goals
        go_wp2_with fail
        go_roundg (G.length - (k + 1))
        case measure => omega
        case rel => exact ⟨k + 1, by omega, rfl, by go_num, hC.trans hC7⟩

end Go.Proofs.YteokjobkjmibfaaGreat
