/- The Book's Apart: each list is as it was, and none shares memory with another one. Condition: the lists are kept. Printed by wip/tools/apart.py. -/
import Derived.Test.YteokjobkjmibfaaGreatBg
import Derived.Test.YteokjobkjmibfaaGreatBe
namespace Go.Proofs.YteokjobkjmibfaaGreat
open Go.RowKit Go.Maps

/-- a Book that keeps lists of numbers and of images alone -/
def BookIs (w : World) (base B : Nat) (N : Part Int) (M : Part Img) : Prop :=
  ∃ cs, Blk w B cs 43 ∧ (∀ i, i < 30 → i ≠ 4 → i ≠ 5 → i ≠ 10 → i ≠ 11 → cs[i]? = some (.slice none 0 0)) ∧ cs[4]? = some (.slice N.a N.R.length N.cap) ∧ cs[5]? = some (.slice N.a' N.R'.length N.cap') ∧
    cs[10]? = some (.slice M.a M.R.length M.cap) ∧ cs[11]? = some (.slice M.a' M.R'.length M.cap') ∧ KeepAt kN kNN w base N ∧ KeepAt kM kMM w base M ∧ N.R.length ≤ 250 ∧ M.R.length ≤ 250 ∧ base ≤ B

def ApartPost (w : World) (base : Nat) (e : Ending) (w' : World) : Prop := e = .returned (.bool true) ∧ ∃ S, Chg S w w' ∧ ∀ g ∈ S, base ≤ g

theorem growN_lit {w : World} {B base : Nat} {cs : Array Value} {a : Option Addr} {cap : Nat} {R : List (Lst Int)} {n : Nat} (hn : R.length = n) (hB : Blk w B cs 43) (h4 : cs[4]? = some (.slice a n cap)) (h : RowsAt kN kNN w base a cap (markTo mksN R.length R)) (hm : n ≤ 250) :
    Calls Tryz.prog 69 #[.pointer (some ⟨B, 0, none⟩)] w fun e w' => ∃ (a2 : Option Addr) (c2 : Nat) (G : List (Lst Int)), e = .returned (.slice a2 n c2) ∧ G.length = n ∧ Marked kN kNN mksN w' a2 G ∧ Marked kN kNN mksN w' a (markTo mksN R.length R) ∧ Chg (rowBlks (markTo mksN R.length R)) w w' := by
  subst hn
  refine (growN_any hB (by rw [markTo_length]; exact h4) h (fun k hk => ((h.marked pairN mksN_length).each k hk).1) (by rw [markTo_length]; exact hm)).mono ?_
  rintro e w' ⟨a2, c2, G, rfl, h1, h2, h3, h4⟩
  rw [markTo_length] at h1
  exact ⟨a2, c2, G, by rw [markTo_length], h1, h2, h3, h4⟩
theorem markedN_lit {w : World} {a : Option Addr} {G : List (Lst Int)} {n : Nat} (hn : G.length = n) (h : Marked kN kNN mksN w a G) (hm : n ≤ 250) (cap : Nat) :
    Calls Tryz.prog 84 #[.slice a n cap] w fun e w' => e = .returned (.bool true) ∧ Chg [] w w' := by
  subst hn
  exact markedN_any h (by omega) cap

theorem growM_lit {w : World} {B base : Nat} {cs : Array Value} {a : Option Addr} {cap : Nat} {R : List (Lst Img)} {n : Nat} (hn : R.length = n) (hB : Blk w B cs 43) (h4 : cs[10]? = some (.slice a n cap)) (h : RowsAt kM kMM w base a cap (markTo mksM R.length R)) (hm : n ≤ 250) :
    Calls Tryz.prog 72 #[.pointer (some ⟨B, 0, none⟩)] w fun e w' => ∃ (a2 : Option Addr) (c2 : Nat) (G : List (Lst Img)), e = .returned (.slice a2 n c2) ∧ G.length = n ∧ Marked kM kMM mksM w' a2 G ∧ Marked kM kMM mksM w' a (markTo mksM R.length R) ∧ Chg (rowBlks (markTo mksM R.length R)) w w' := by
  subst hn
  refine (growM_any hB (by rw [markTo_length]; exact h4) h (fun k hk => ((h.marked pairM mksM_length).each k hk).1) (by rw [markTo_length]; exact hm)).mono ?_
  rintro e w' ⟨a2, c2, G, rfl, h1, h2, h3, h4⟩
  rw [markTo_length] at h1
  exact ⟨a2, c2, G, by rw [markTo_length], h1, h2, h3, h4⟩
theorem markedM_lit {w : World} {a : Option Addr} {G : List (Lst Img)} {n : Nat} (hn : G.length = n) (h : Marked kM kMM mksM w a G) (hm : n ≤ 250) (cap : Nat) :
    Calls Tryz.prog 87 #[.slice a n cap] w fun e w' => e = .returned (.bool true) ∧ Chg [] w w' := by
  subst hn
  exact markedM_any h (by omega) cap

set_option maxHeartbeats 16000000 in
set_option maxRecDepth 1000000 in
theorem apart_any {w : World} {base B : Nat} {N : Part Int} {M : Part Img} (h : BookIs w base B N M) : Calls Tryz.prog 17 #[.pointer (some ⟨B, 0, none⟩)] w (ApartPost w base) := by
  obtain ⟨cs, hB, hz, h4, h5, h10, h11, hN, hM, hln, hlm, _⟩ := h
  obtain ⟨na, nc, NR, na', nc', NR'⟩ := N
  obtain ⟨ma, mc, MR, ma', mc', MR'⟩ := M
  simp only at h4 h5 h10 h11 hln hlm
  have HZ := Lib.hid hz
  have H4 := Lib.hid h4
  have H5 := Lib.hid h5
  have H10 := Lib.hid h10
  have H11 := Lib.hid h11
  have HB0 := Lib.hid hB
  have HN0 := Lib.hid hN
  have HM0 := Lib.hid hM
  have HLN := Lib.hid (markTo_length mksN NR.length NR)
  have HLM := Lib.hid (markTo_length mksM MR.length MR)
  clear hz h4 h5 h10 h11 hB hN hM
  go_enter Tryz.func17, Tryz.ntmps17
  go_wp2_with fail
  refine (stillTexts_none HB0.out (HZ.out 0 (by decide) (by decide) (by decide) (by decide) (by decide))).mono ?_
  rintro e w' ⟨rfl, hw⟩
  subst w'
  go_wp2_with fail
  refine (stillInts_none HB0.out (HZ.out 2 (by decide) (by decide) (by decide) (by decide) (by decide))).mono ?_
  rintro e w' ⟨rfl, hw⟩
  subst w'
  go_wp2_with fail
  refine (stillN_any HB0.out H4.out H5.out HN0.out (by simp only; omega)).mono ?_
  rintro e w1 ⟨rfl, hC1⟩
  have HB1 := Lib.hid (HB0.out.chg hC1 (by simp))
  have HN1 := Lib.hid (HN0.out.chg0 hC1)
  have HM1 := Lib.hid (HM0.out.chg0 hC1)
  have HC1 := Lib.hid hC1
  clear hC1
  go_wp2_with fail
  refine (stillSpans_none HB1.out (HZ.out 6 (by decide) (by decide) (by decide) (by decide) (by decide))).mono ?_
  rintro e w' ⟨rfl, hw⟩
  subst w'
  go_wp2_with fail
  refine (stillLocks_none HB1.out (HZ.out 8 (by decide) (by decide) (by decide) (by decide) (by decide))).mono ?_
  rintro e w' ⟨rfl, hw⟩
  subst w'
  go_wp2_with fail
  refine (stillM_any HB1.out H10.out H11.out HM1.out (by simp only; omega)).mono ?_
  rintro e w2 ⟨rfl, hC2⟩
  have HB2 := Lib.hid (HB1.out.chg hC2 (by simp))
  have HN2 := Lib.hid (HN1.out.chg0 hC2)
  have HM2 := Lib.hid (HM1.out.chg0 hC2)
  have HC2 := Lib.hid hC2
  clear hC2
  go_wp2_with fail
  refine (stillRecords_none HB2.out (HZ.out 12 (by decide) (by decide) (by decide) (by decide) (by decide))).mono ?_
  rintro e w' ⟨rfl, hw⟩
  subst w'
  go_wp2_with fail
  refine (stillPackets_none HB2.out (HZ.out 14 (by decide) (by decide) (by decide) (by decide) (by decide))).mono ?_
  rintro e w' ⟨rfl, hw⟩
  subst w'
  go_wp2_with fail
  refine (stillFrames_none HB2.out (HZ.out 16 (by decide) (by decide) (by decide) (by decide) (by decide))).mono ?_
  rintro e w' ⟨rfl, hw⟩
  subst w'
  go_wp2_with fail
  refine (stillWaits_none HB2.out (HZ.out 18 (by decide) (by decide) (by decide) (by decide) (by decide))).mono ?_
  rintro e w' ⟨rfl, hw⟩
  subst w'
  go_wp2_with fail
  refine (stillRevokes_none HB2.out (HZ.out 20 (by decide) (by decide) (by decide) (by decide) (by decide))).mono ?_
  rintro e w' ⟨rfl, hw⟩
  subst w'
  go_wp2_with fail
  refine (stillEntries_none HB2.out (HZ.out 22 (by decide) (by decide) (by decide) (by decide) (by decide))).mono ?_
  rintro e w' ⟨rfl, hw⟩
  subst w'
  go_wp2_with fail
  refine (stillParts_none HB2.out (HZ.out 24 (by decide) (by decide) (by decide) (by decide) (by decide))).mono ?_
  rintro e w' ⟨rfl, hw⟩
  subst w'
  go_wp2_with fail
  refine (stillMsgs_none HB2.out (HZ.out 26 (by decide) (by decide) (by decide) (by decide) (by decide))).mono ?_
  rintro e w' ⟨rfl, hw⟩
  subst w'
  go_wp2_with fail
  refine (stillSteps_none HB2.out (HZ.out 28 (by decide) (by decide) (by decide) (by decide) (by decide))).mono ?_
  rintro e w' ⟨rfl, hw⟩
  subst w'
  have HRN2 := Lib.hid HN2.out.rows
  have HRM2 := Lib.hid HM2.out.rows
  go_wp2_with fail
  refine (putRecords_none HB2.out (HZ.out 12 (by decide) (by decide) (by decide) (by decide) (by decide))).mono ?_
  rintro e w' ⟨rfl, hw⟩
  subst w'
  go_wp2_with fail
  refine (putMsgs_none HB2.out (HZ.out 26 (by decide) (by decide) (by decide) (by decide) (by decide))).mono ?_
  rintro e w' ⟨rfl, hw⟩
  subst w'
  go_wp2_with fail
  refine (putSteps_none HB2.out (HZ.out 28 (by decide) (by decide) (by decide) (by decide) (by decide))).mono ?_
  rintro e w' ⟨rfl, hw⟩
  subst w'
  go_wp2_with fail
  refine (putTexts_none HB2.out (HZ.out 0 (by decide) (by decide) (by decide) (by decide) (by decide))).mono ?_
  rintro e w' ⟨rfl, hw⟩
  subst w'
  go_wp2_with fail
  refine (putInts_none HB2.out (HZ.out 2 (by decide) (by decide) (by decide) (by decide) (by decide))).mono ?_
  rintro e w' ⟨rfl, hw⟩
  subst w'
  go_wp2_with fail
  refine (putN_any HB2.out H4.out HRN2.out hln).mono ?_
  rintro e w3 ⟨rfl, hR3, hC3⟩
  have HB3 := Lib.hid (HB2.out.chg hC3 (HRN2.out.notB pairN HB2.out))
  have HRN3 := Lib.hid hR3
  have HRM3 := Lib.hid (HRM2.out.chgT hC3 (HRN2.out.others (by decide) (by decide)))
  have HC3 := Lib.hid hC3
  clear hR3 hC3
  go_wp2_with fail
  refine (putSpans_none HB3.out (HZ.out 6 (by decide) (by decide) (by decide) (by decide) (by decide))).mono ?_
  rintro e w' ⟨rfl, hw⟩
  subst w'
  go_wp2_with fail
  refine (putLocks_none HB3.out (HZ.out 8 (by decide) (by decide) (by decide) (by decide) (by decide))).mono ?_
  rintro e w' ⟨rfl, hw⟩
  subst w'
  go_wp2_with fail
  refine (putM_any HB3.out H10.out HRM3.out hlm).mono ?_
  rintro e w4 ⟨rfl, hR4, hC4⟩
  have HB4 := Lib.hid (HB3.out.chg hC4 (HRM3.out.notB pairM HB3.out))
  have HRM4 := Lib.hid hR4
  have HRN4 := Lib.hid (HRN3.out.chgT hC4 (HRM3.out.others (by decide) (by decide)))
  have HC4 := Lib.hid hC4
  clear hR4 hC4
  go_wp2_with fail
  refine (putPackets_none HB4.out (HZ.out 14 (by decide) (by decide) (by decide) (by decide) (by decide))).mono ?_
  rintro e w' ⟨rfl, hw⟩
  subst w'
  go_wp2_with fail
  refine (putFrames_none HB4.out (HZ.out 16 (by decide) (by decide) (by decide) (by decide) (by decide))).mono ?_
  rintro e w' ⟨rfl, hw⟩
  subst w'
  go_wp2_with fail
  refine (putWaits_none HB4.out (HZ.out 18 (by decide) (by decide) (by decide) (by decide) (by decide))).mono ?_
  rintro e w' ⟨rfl, hw⟩
  subst w'
  go_wp2_with fail
  refine (putRevokes_none HB4.out (HZ.out 20 (by decide) (by decide) (by decide) (by decide) (by decide))).mono ?_
  rintro e w' ⟨rfl, hw⟩
  subst w'
  go_wp2_with fail
  refine (putEntries_none HB4.out (HZ.out 22 (by decide) (by decide) (by decide) (by decide) (by decide))).mono ?_
  rintro e w' ⟨rfl, hw⟩
  subst w'
  go_wp2_with fail
  refine (putParts_none HB4.out (HZ.out 24 (by decide) (by decide) (by decide) (by decide) (by decide))).mono ?_
  rintro e w' ⟨rfl, hw⟩
  subst w'
  go_wp2_with fail
  refine (growTexts_none HB4.out (HZ.out 0 (by decide) (by decide) (by decide) (by decide) (by decide))).mono ?_
  rintro e w' ⟨rfl, hw⟩
  subst w'
  go_wp2_with fail
  refine (growInts_none HB4.out (HZ.out 2 (by decide) (by decide) (by decide) (by decide) (by decide))).mono ?_
  rintro e w' ⟨rfl, hw⟩
  subst w'
  go_wp2_with fail
  refine (growN_lit rfl HB4.out H4.out HRN4.out hln).mono ?_
  rintro e w5 ⟨ga, gc, GN, rfl, hg5, hm5, hr5, hC5⟩
  have HB5 := Lib.hid (HB4.out.chg hC5 (HRN4.out.notB pairN HB4.out))
  have HGN := Lib.hid hg5
  have HMG5 := Lib.hid hm5
  have HMR5 := Lib.hid hr5
  have HRM5 := Lib.hid (HRM4.out.chgT hC5 (HRN4.out.others (by decide) (by decide)))
  have HC5 := Lib.hid hC5
  clear hg5 hm5 hr5 hC5
  go_wp2_with fail
  refine (growSpans_none HB5.out (HZ.out 6 (by decide) (by decide) (by decide) (by decide) (by decide))).mono ?_
  rintro e w' ⟨rfl, hw⟩
  subst w'
  go_wp2_with fail
  refine (growLocks_none HB5.out (HZ.out 8 (by decide) (by decide) (by decide) (by decide) (by decide))).mono ?_
  rintro e w' ⟨rfl, hw⟩
  subst w'
  go_wp2_with fail
  refine (growM_lit rfl HB5.out H10.out HRM5.out hlm).mono ?_
  rintro e w6 ⟨gma, gmc, GM, rfl, hg6, hm6, hr6, hC6⟩
  have HB6 := Lib.hid (HB5.out.chg hC6 (HRM5.out.notB pairM HB5.out))
  have HGM := Lib.hid hg6
  have HMM6 := Lib.hid hm6
  have HMQ6 := Lib.hid hr6
  have HMG6 := Lib.hid (HMG5.out.chgT pairN hC6 (HRM5.out.others (by decide) (by decide)))
  have HMR6 := Lib.hid (HMR5.out.chgT pairN hC6 (HRM5.out.others (by decide) (by decide)))
  have HC6 := Lib.hid hC6
  clear hg6 hm6 hr6 hC6
  go_wp2_with fail
  refine (growRecords_none HB6.out (HZ.out 12 (by decide) (by decide) (by decide) (by decide) (by decide))).mono ?_
  rintro e w' ⟨rfl, hw⟩
  subst w'
  go_wp2_with fail
  refine (growPackets_none HB6.out (HZ.out 14 (by decide) (by decide) (by decide) (by decide) (by decide))).mono ?_
  rintro e w' ⟨rfl, hw⟩
  subst w'
  go_wp2_with fail
  refine (growFrames_none HB6.out (HZ.out 16 (by decide) (by decide) (by decide) (by decide) (by decide))).mono ?_
  rintro e w' ⟨rfl, hw⟩
  subst w'
  go_wp2_with fail
  refine (growWaits_none HB6.out (HZ.out 18 (by decide) (by decide) (by decide) (by decide) (by decide))).mono ?_
  rintro e w' ⟨rfl, hw⟩
  subst w'
  go_wp2_with fail
  refine (growRevokes_none HB6.out (HZ.out 20 (by decide) (by decide) (by decide) (by decide) (by decide))).mono ?_
  rintro e w' ⟨rfl, hw⟩
  subst w'
  go_wp2_with fail
  refine (growEntries_none HB6.out (HZ.out 22 (by decide) (by decide) (by decide) (by decide) (by decide))).mono ?_
  rintro e w' ⟨rfl, hw⟩
  subst w'
  go_wp2_with fail
  refine (growParts_none HB6.out (HZ.out 24 (by decide) (by decide) (by decide) (by decide) (by decide))).mono ?_
  rintro e w' ⟨rfl, hw⟩
  subst w'
  go_wp2_with fail
  refine (growMsgs_none HB6.out (HZ.out 26 (by decide) (by decide) (by decide) (by decide) (by decide))).mono ?_
  rintro e w' ⟨rfl, hw⟩
  subst w'
  go_wp2_with fail
  refine (growSteps_none HB6.out (HZ.out 28 (by decide) (by decide) (by decide) (by decide) (by decide))).mono ?_
  rintro e w' ⟨rfl, hw⟩
  subst w'
  go_wp2_with fail
  refine (markedTexts_none w6).mono ?_
  rintro e w' ⟨rfl, hw⟩
  subst w'
  have c6 := HB6.out.cell 0 (HZ.out 0 (by decide) (by decide) (by decide) (by decide) (by decide))
  go_wp2_with fail
  refine (markedTexts_none w6).mono ?_
  rintro e w' ⟨rfl, hw⟩
  subst w'
  clear c6
  go_wp2_with fail
  refine (markedInts_none w6).mono ?_
  rintro e w' ⟨rfl, hw⟩
  subst w'
  have c6 := HB6.out.cell 2 (HZ.out 2 (by decide) (by decide) (by decide) (by decide) (by decide))
  go_wp2_with fail
  refine (markedInts_none w6).mono ?_
  rintro e w' ⟨rfl, hw⟩
  subst w'
  clear c6
  go_wp2_with fail
  refine (markedN_lit HGN.out HMG6.out hln gc).mono ?_
  rintro e w7 ⟨rfl, hC7⟩
  have HB7 := Lib.hid (HB6.out.chg hC7 (by simp))
  have HMG7 := Lib.hid (HMG6.out.chg0 pairN hC7)
  have HMR7 := Lib.hid (HMR6.out.chg0 pairN hC7)
  have HMM7 := Lib.hid (HMM6.out.chg0 pairM hC7)
  have HMQ7 := Lib.hid (HMQ6.out.chg0 pairM hC7)
  have HC7 := Lib.hid hC7
  clear hC7
  have c7 := HB7.out.cell 4 H4.out
  go_wp2_with fail
  clear c7
  refine (markedN_lit HLN.out HMR7.out hln nc).mono ?_
  rintro e w8 ⟨rfl, hC8⟩
  have HB8 := Lib.hid (HB7.out.chg hC8 (by simp))
  have HMG8 := Lib.hid (HMG7.out.chg0 pairN hC8)
  have HMR8 := Lib.hid (HMR7.out.chg0 pairN hC8)
  have HMM8 := Lib.hid (HMM7.out.chg0 pairM hC8)
  have HMQ8 := Lib.hid (HMQ7.out.chg0 pairM hC8)
  have HC8 := Lib.hid hC8
  clear hC8
  go_wp2_with fail
  refine (markedSpans_none w8).mono ?_
  rintro e w' ⟨rfl, hw⟩
  subst w'
  have c8 := HB8.out.cell 6 (HZ.out 6 (by decide) (by decide) (by decide) (by decide) (by decide))
  go_wp2_with fail
  refine (markedSpans_none w8).mono ?_
  rintro e w' ⟨rfl, hw⟩
  subst w'
  clear c8
  go_wp2_with fail
  refine (markedLocks_none w8).mono ?_
  rintro e w' ⟨rfl, hw⟩
  subst w'
  have c8 := HB8.out.cell 8 (HZ.out 8 (by decide) (by decide) (by decide) (by decide) (by decide))
  go_wp2_with fail
  refine (markedLocks_none w8).mono ?_
  rintro e w' ⟨rfl, hw⟩
  subst w'
  clear c8
  go_wp2_with fail
  refine (markedM_lit HGM.out HMM8.out hlm gmc).mono ?_
  rintro e w9 ⟨rfl, hC9⟩
  have HB9 := Lib.hid (HB8.out.chg hC9 (by simp))
  have HMG9 := Lib.hid (HMG8.out.chg0 pairN hC9)
  have HMR9 := Lib.hid (HMR8.out.chg0 pairN hC9)
  have HMM9 := Lib.hid (HMM8.out.chg0 pairM hC9)
  have HMQ9 := Lib.hid (HMQ8.out.chg0 pairM hC9)
  have HC9 := Lib.hid hC9
  clear hC9
  have c9 := HB9.out.cell 10 H10.out
  go_wp2_with fail
  clear c9
  refine (markedM_lit HLM.out HMQ9.out hlm mc).mono ?_
  rintro e w10 ⟨rfl, hC10⟩
  have HB10 := Lib.hid (HB9.out.chg hC10 (by simp))
  have HMG10 := Lib.hid (HMG9.out.chg0 pairN hC10)
  have HMR10 := Lib.hid (HMR9.out.chg0 pairN hC10)
  have HMM10 := Lib.hid (HMM9.out.chg0 pairM hC10)
  have HMQ10 := Lib.hid (HMQ9.out.chg0 pairM hC10)
  have HC10 := Lib.hid hC10
  clear hC10
  go_wp2_with fail
  refine (markedRecords_none w10).mono ?_
  rintro e w' ⟨rfl, hw⟩
  subst w'
  have c10 := HB10.out.cell 12 (HZ.out 12 (by decide) (by decide) (by decide) (by decide) (by decide))
  go_wp2_with fail
  refine (markedRecords_none w10).mono ?_
  rintro e w' ⟨rfl, hw⟩
  subst w'
  clear c10
  go_wp2_with fail
  refine (markedPackets_none w10).mono ?_
  rintro e w' ⟨rfl, hw⟩
  subst w'
  have c10 := HB10.out.cell 14 (HZ.out 14 (by decide) (by decide) (by decide) (by decide) (by decide))
  go_wp2_with fail
  refine (markedPackets_none w10).mono ?_
  rintro e w' ⟨rfl, hw⟩
  subst w'
  clear c10
  go_wp2_with fail
  refine (markedFrames_none w10).mono ?_
  rintro e w' ⟨rfl, hw⟩
  subst w'
  have c10 := HB10.out.cell 16 (HZ.out 16 (by decide) (by decide) (by decide) (by decide) (by decide))
  go_wp2_with fail
  refine (markedFrames_none w10).mono ?_
  rintro e w' ⟨rfl, hw⟩
  subst w'
  clear c10
  go_wp2_with fail
  refine (markedWaits_none w10).mono ?_
  rintro e w' ⟨rfl, hw⟩
  subst w'
  have c10 := HB10.out.cell 18 (HZ.out 18 (by decide) (by decide) (by decide) (by decide) (by decide))
  go_wp2_with fail
  refine (markedWaits_none w10).mono ?_
  rintro e w' ⟨rfl, hw⟩
  subst w'
  clear c10
  go_wp2_with fail
  refine (markedRevokes_none w10).mono ?_
  rintro e w' ⟨rfl, hw⟩
  subst w'
  have c10 := HB10.out.cell 20 (HZ.out 20 (by decide) (by decide) (by decide) (by decide) (by decide))
  go_wp2_with fail
  refine (markedRevokes_none w10).mono ?_
  rintro e w' ⟨rfl, hw⟩
  subst w'
  clear c10
  go_wp2_with fail
  refine (markedEntries_none w10).mono ?_
  rintro e w' ⟨rfl, hw⟩
  subst w'
  have c10 := HB10.out.cell 22 (HZ.out 22 (by decide) (by decide) (by decide) (by decide) (by decide))
  go_wp2_with fail
  refine (markedEntries_none w10).mono ?_
  rintro e w' ⟨rfl, hw⟩
  subst w'
  clear c10
  go_wp2_with fail
  refine (markedParts_none w10).mono ?_
  rintro e w' ⟨rfl, hw⟩
  subst w'
  have c10 := HB10.out.cell 24 (HZ.out 24 (by decide) (by decide) (by decide) (by decide) (by decide))
  go_wp2_with fail
  refine (markedParts_none w10).mono ?_
  rintro e w' ⟨rfl, hw⟩
  subst w'
  clear c10
  go_wp2_with fail
  refine (markedMsgs_none w10).mono ?_
  rintro e w' ⟨rfl, hw⟩
  subst w'
  have c10 := HB10.out.cell 26 (HZ.out 26 (by decide) (by decide) (by decide) (by decide) (by decide))
  go_wp2_with fail
  refine (markedMsgs_none w10).mono ?_
  rintro e w' ⟨rfl, hw⟩
  subst w'
  clear c10
  go_wp2_with fail
  refine (markedSteps_none w10).mono ?_
  rintro e w' ⟨rfl, hw⟩
  subst w'
  have c10 := HB10.out.cell 28 (HZ.out 28 (by decide) (by decide) (by decide) (by decide) (by decide))
  go_wp2_with fail
  refine (markedSteps_none w10).mono ?_
  rintro e w' ⟨rfl, hw⟩
  subst w'
  clear c10
  go_wp2_with fail
  go_ret
  refine ⟨rfl, rowBlks NR ++ (rowBlks MR ++ (rowBlks (markTo mksN NR.length NR) ++ rowBlks (markTo mksM MR.length MR))), ?_, ?_⟩
  · have t2 : Chg [] w w2 := HC1.out.trans HC2.out
    have sub : ∀ {S S' : List Nat} {a b : World}, Chg S a b → (∀ g, g ∈ S → g ∈ S') → Chg S' a b := fun h hs => h.mono fun g hg => .inl (hs g hg)
    have tail : Chg [] w6 w10 := ((HC7.out.trans HC8.out).trans HC9.out).trans HC10.out
    refine (((((sub t2 (by simp)).trans (sub HC3.out fun g hg => ?_)).trans (sub HC4.out fun g hg => ?_)).trans (sub HC5.out fun g hg => ?_)).trans (sub HC6.out fun g hg => ?_)).trans (sub tail (by simp))
    · exact List.mem_append_left _ hg
    · exact List.mem_append_right _ (List.mem_append_left _ hg)
    · exact List.mem_append_right _ (List.mem_append_right _ (List.mem_append_left _ hg))
    · exact List.mem_append_right _ (List.mem_append_right _ (List.mem_append_right _ hg))
  · intro g hg
    rcases List.mem_append.1 hg with hg | hg
    · obtain ⟨r, hr, hg⟩ := mem_rowBlks.1 hg
      exact HRN2.out.news r hr g hg
    rcases List.mem_append.1 hg with hg | hg
    · obtain ⟨r, hr, hg⟩ := mem_rowBlks.1 hg
      exact HRM2.out.news r hr g hg
    rcases List.mem_append.1 hg with hg | hg
    · obtain ⟨r, hr, hg⟩ := mem_rowBlks.1 hg
      exact HRN4.out.news r hr g hg
    · obtain ⟨r, hr, hg⟩ := mem_rowBlks.1 hg
      exact HRM4.out.news r hr g hg

end Go.Proofs.YteokjobkjmibfaaGreat
