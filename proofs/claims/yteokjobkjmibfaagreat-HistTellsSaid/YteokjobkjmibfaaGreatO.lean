/- The function One of the package commonslaw11: an image of a block; and strings made of bytes. No condition. -/
import Derived.Test.YteokjobkjmibfaaGreatJw
import Derived.Laws.BytesArg
namespace Go.Proofs.YteokjobkjmibfaaGreat
open Go.RowKit Go.Maps

theorem conv_blk {w : World} {b : Nat} {xs : List Int} (hB : Blk w b ((xs.map (Value.int .u8)).toArray) 5) {n : Nat} (hn : xs.length = n) (cap : Nat) :
    (convert 67 9 (.slice (some ⟨b, 0, none⟩) n cap)).run Tryz.prog w = .ok (.string (strOfNums xs)) w :=
  run_convert_bytes_arg w 67 5 Tryz.underlying67 Tryz.underlying5 b 0 n cap xs hn (fun i hi => by
    rw [Nat.zero_add]
    refine hB.cell i ?_
    simp [List.getD_eq_getElem?_getD, show i < xs.length by omega]) 9 Tryz.underlying9

def zeros (n : Nat) : List Int := List.replicate n 0
def oneNums (n : Int) : List Int := (n % 256) :: zeros 95
def oneStr (n : Int) : Str := strOfNums (oneNums n)

theorem rep_set (m : Nat) (x y : Value) : (Array.replicate (m + 1) x).setIfInBounds 0 y = (y :: List.replicate m x).toArray := by
  apply Array.ext_getElem?
  intro i
  rw [Array.getElem?_setIfInBounds]
  cases i with
  | zero => simp
  | succ i =>
    rw [if_neg (by omega), Array.getElem?_replicate, List.getElem?_toArray, List.getElem?_cons_succ, List.getElem?_replicate]
    by_cases hi : i < m
    · rw [if_pos (by omega), if_pos hi]
    · rw [if_neg (by omega), if_neg hi]
theorem rep_list (m : Nat) (x : Value) : Array.replicate m x = (List.replicate m x).toArray := by simp
theorem zeros_map (m : Nat) : (zeros m).map (Value.int .u8) = List.replicate m (.int .u8 0) := by unfold zeros; rw [List.map_replicate]
theorem zeros_length (m : Nat) : (zeros m).length = m := by unfold zeros; exact List.length_replicate
theorem one_cells (n : Int) : (Array.replicate 96 (Value.int .u8 0)).setIfInBounds 0 (.int .u8 (n % 256)) = ((oneNums n).map (Value.int .u8)).toArray := by
  unfold oneNums
  rw [List.map_cons, zeros_map]
  exact rep_set 95 _ _
theorem zero_cells : Array.replicate 96 (Value.int .u8 0) = ((zeros 96).map (Value.int .u8)).toArray := by
  rw [zeros_map]
  exact rep_list 96 _

theorem make96 (w : World) : (Instr.makeSlice 67 (.int .i64 96) (.int .i64 96)).run Tryz.prog w = .ok (.slice (some ⟨w.heap.size, 0, none⟩) 96 96) (w.alloc (.cells (Array.replicate 96 (.int .u8 0)) 5)) := by kernel_rfl

theorem conv_zero (w : World) : (convert 67 9 (.slice (some ⟨w.heap.size, 0, none⟩) 96 96)).run Tryz.prog (w.alloc (.cells (Array.replicate 96 (.int .u8 0)) 5)) = .ok (.string zero96) (w.alloc (.cells (Array.replicate 96 (.int .u8 0)) 5)) := by
  have hB := Blk.new w (Array.replicate 96 (.int .u8 0)) 5
  have h := conv_blk (xs := zeros 96) (b := w.heap.size) (w := w.alloc (.cells (Array.replicate 96 (.int .u8 0)) 5)) (by rw [← zero_cells]; exact hB) (n := 96) (zeros_length 96) 96
  rw [show strOfNums (zeros 96) = zero96 by kernel_rfl] at h
  exact h

theorem one_any (n v : Int) (w : World) :
    Calls Tryz.prog 21 #[.int .i64 n, .int .u64 v] w fun e w' => e = .returned (.agg #[.int .i64 n, .int .u64 v, .string (oneStr n)]) ∧ Below w.heap.size w w' := by
  have hmk := make96
  have hcv : ∀ (W : World) (b : Nat), W.heap.size = b → (convert 67 9 (.slice (some ⟨b, 0, none⟩) 96 96)).run Tryz.prog (W.alloc (.cells ((Array.replicate 96 (.int .u8 0)).setIfInBounds 0 (.int .u8 (n % 256))) 5)) = .ok (.string (oneStr n)) (W.alloc (.cells ((Array.replicate 96 (.int .u8 0)).setIfInBounds 0 (.int .u8 (n % 256))) 5)) := fun W b hb => by
    subst hb
    have hB := Blk.new W ((Array.replicate 96 (.int .u8 0)).setIfInBounds 0 (.int .u8 (n % 256))) 5
    exact conv_blk (xs := oneNums n) (by rw [← one_cells]; exact hB) (n := 96) (by unfold oneNums; rw [List.length_cons, zeros_length]) 96
  have hc := hcv (w.alloc (.cells #[.int .i64 0, .int .u64 0, .string ⟨#[]⟩] 69)) (w.heap.size + 1) (by simp)
  clear hcv
  go_enter Tryz.func21, Tryz.ntmps21
  go_wp2_with fail
  go_returns
  exact ⟨rfl, ((Below.refl _ w).alloc (Nat.le_refl _) _).alloc (by simp) _⟩

end Go.Proofs.YteokjobkjmibfaaGreat
