/- What a first call answers, reckoned by hand: two histories of the statements' own. No condition. -/
import Derived.Test.YteokjobkjmibfaaGreatPl
namespace Go.Proofs.YteokjobkjmibfaaGreat
open Go.RowKit Go.Maps

theorem right_iff (f : Arr) (i : Img) : f.right i = true ↔ f.has i.block = i.data := by
  unfold Arr.right
  rw [beq_iff_eq, ByteArray.toList_eq, ByteArray.toList_eq]
  exact ⟨str_ext, fun h => by rw [h]⟩
theorem right_false (f : Arr) (i : Img) (h : f.has i.block ≠ i.data) : f.right i = false := by
  cases hr : f.right i
  · rfl
  · exact absurd ((right_iff f i).1 hr) h

theorem zero96_eq : zero96 = strOfNums (zeros 96) := by kernel_rfl
theorem strOfNums_inj {a b : List Int} (ha : ∀ x ∈ a, 0 ≤ x ∧ x < 256) (hb : ∀ x ∈ b, 0 ≤ x ∧ x < 256) (h : strOfNums a = strOfNums b) : a = b := by
  have h1 : (strOfNums a).data.toList = (strOfNums b).data.toList := by rw [h]
  rw [strOfNums_data, strOfNums_data] at h1
  clear h
  induction a generalizing b with
  | nil => cases b with
    | nil => rfl
    | cons y b => simp at h1
  | cons x a ih => cases b with
    | nil => simp at h1
    | cons y b =>
      simp only [List.map_cons, List.cons.injEq] at h1
      have hx := ha x (by simp)
      have hy := hb y (by simp)
      have e : x = y := by
        have := congrArg UInt8.toNat h1.1
        rw [UInt8.toNat_ofNat', UInt8.toNat_ofNat'] at this
        omega
      rw [e, ih (fun z hz => ha z (List.mem_cons_of_mem _ hz)) (fun z hz => hb z (List.mem_cons_of_mem _ hz)) h1.2]
theorem zeros_byte {n : Nat} : ∀ x ∈ zeros n, (0 : Int) ≤ x ∧ x < 256 := fun x hx => by
  unfold zeros at hx
  rw [List.eq_of_mem_replicate hx]; omega
theorem oneNums_byte (n : Int) : ∀ x ∈ oneNums n, 0 ≤ x ∧ x < 256 := fun x hx => by
  unfold oneNums at hx
  rcases List.mem_cons.1 hx with rfl | hx
  · omega
  · exact zeros_byte x hx
theorem one_ne_zero {n : Int} (h : n % 256 ≠ 0) : oneStr n ≠ zero96 := by
  rw [zero96_eq]
  intro e
  have := strOfNums_inj (oneNums_byte n) zeros_byte e
  unfold oneNums at this
  rw [show zeros 96 = 0 :: zeros 95 from rfl] at this
  exact h (List.cons.inj this).1

def ev (kind node epoch lsn : Int) (rs ws : List Img) (ra : Option Addr) (rc : Nat) (wa : Option Addr) (wc : Nat) : Ev := ⟨kind, node, epoch, lsn, rs, ws, ra, rc, wa, wc⟩

def alive1 (wa : Option Addr) (wc : Nat) (ra : Option Addr) (rc : Nat) : List Ev := [⟨1, 1, 1, 1, [], [⟨1, 0, oneStr 1⟩], none, 0, wa, wc⟩, ⟨3, 1, 1, 0, [], [], none, 0, none, 0⟩, ⟨1, 2, 2, 0, [⟨1, 0, zero96⟩], [], ra, rc, none, 0⟩]
def alive2 (ra : Option Addr) (rc : Nat) : List Ev := [⟨4, 0, 0, 0, [⟨1, 0, oneStr 1⟩], [], ra, rc, none, 0⟩]

theorem alive2_judge (ra : Option Addr) (rc : Nat) : cutsErr (alive2 ra rc) = 0 ∧ judgeOk (alive2 ra rc) = false := by
  obtain ⟨h1, h2⟩ := judge_plain (L := alive2 ra rc) (by intro e he; simp [alive2] at he; subst he; right; rfl) (by simp [alive2])
  refine ⟨h1, h2.trans ?_⟩
  have hr : Arr.right (fun _ => none) ⟨1, 0, oneStr 1⟩ = false := right_false _ _ (by
    show zero96 ≠ oneStr 1
    exact fun e => one_ne_zero (n := 1) (by decide) e.symm)
  simp [alive2, runs, run, hr]

theorem alive1_err (wa : Option Addr) (wc : Nat) (ra : Option Addr) (rc : Nat) : cutsErr (alive1 wa wc ra rc) = 0 := by kernel_rfl
theorem alive1_judge (wa : Option Addr) (wc : Nat) (ra : Option Addr) (rc : Nat) : judgeOk (alive1 wa wc ra rc) = true := by
  have hc : count (chs (alive1 wa wc ra rc) (alive1 wa wc ra rc).length) = 2 := by kernel_rfl
  refine judge_yes (n := 0) (alive1_err wa wc ra rc) (by rw [hc]; omega) ?_
  have hr : Arr.right (fun _ => none) ⟨1, 0, zero96⟩ = true := (right_iff _ _).2 rfl
  have hp : pick (chs (alive1 wa wc ra rc) (alive1 wa wc ra rc).length) 0 = [0] := by kernel_rfl
  rw [hp]
  simp [alive1, playOk, plays, pstep, PSt.start, PSt.left, gonep, gput, alone, aloneStep, Ev.grt, Arr.write, hr, List.getD]

end Go.Proofs.YteokjobkjmibfaaGreat
