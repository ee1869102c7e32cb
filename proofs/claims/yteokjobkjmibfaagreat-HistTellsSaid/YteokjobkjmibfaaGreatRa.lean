/- The reference's small functions: get, reads, counts. Condition: what they are handed can be read. -/
import Derived.Test.YteokjobkjmibfaaGreatV
namespace Go.Proofs.YteokjobkjmibfaaGreat
open Go.RowKit Go.Maps

/-- what an array of images has of a block -/
def rget (A : List Img) (b : Int) : Str := ((A.find? fun i => i.block == b).map Img.data).getD zero96

theorem find_none_take {A : List Img} {b : Int} {k : Nat} (hk : k < A.length) (h : (A.take k).find? (fun i => i.block == b) = none) (hne : ((A.getD k default).block == b) = false) : (A.take (k + 1)).find? (fun i => i.block == b) = none := by
  rw [take_step hk, List.find?_append, h]
  generalize A.getD k default = e at hne ⊢
  simp only [beq_eq_false_iff_ne] at hne
  simp [hne]
theorem find_some_take {A : List Img} {b : Int} {k : Nat} (hk : k < A.length) (h : (A.take k).find? (fun i => i.block == b) = none) (he : ((A.getD k default).block == b) = true) : A.find? (fun i => i.block == b) = some (A.getD k default) := by
  have h1 : (A.take (k + 1)).find? (fun i => i.block == b) = some (A.getD k default) := by
    rw [take_step hk, List.find?_append, h]
    generalize A.getD k default = e at he ⊢
    simp only [beq_iff_eq] at he
    simp [he]
  conv => lhs; rw [← List.take_append_drop (k + 1) A]
  rw [List.find?_append, h1]; rfl

set_option maxHeartbeats 1000000 in
theorem get_any {w : World} {a : Option Addr} {A : List Img} (h : ImgsAt w a A) (cap : Nat) (b : Int) :
    Calls Tryz.prog 106 #[.slice a A.length cap, .int .i64 b] w fun e w' => e = .returned (.string (rget A b)) ∧ Below w.heap.size w w' := by
  have hbig := h.2.1
  have hmk := make96
  go_enter Tryz.func106, Tryz.ntmps106
  go_wp2_with fail
  go_loopg [5] A.length (fun q s5 wr => ∃ k : Nat, k ≤ A.length ∧ q = A.length - k ∧ s5 = .int .i64 k ∧ (A.take k).find? (fun i => i.block == b) = none ∧ w = wr)
  case atStart => exact ⟨0, Nat.zero_le _, rfl, rfl, rfl, rfl⟩
  case round =>
    obtain ⟨k, hk, rfl, rfl, hf, rfl⟩ := hrel
    have HF := Lib.hid hf
    clear hf
    by_cases hlt : k < A.length
    case neg =>
      obtain rfl : k = A.length := by omega
      have hr : rget A b = zero96 := by unfold rget; have := HF.out; rw [List.take_length] at this; rw [this]; rfl
      have HR := Lib.hid hr
      have hcv := conv_zero w
      clear hr
      go_wp2_with fail
      go_ret
      exact ⟨by rw [HR.out]; rfl, (Below.refl _ w).alloc (Nat.le_refl _) _⟩
    case pos =>
      obtain ⟨bb, oo, rfl, c0, c1, c2, hok⟩ := h.at_ hlt
      obtain ⟨im, him⟩ : ∃ im, A.getD k default = im := ⟨_, rfl⟩
      rw [him] at c0 c1 c2
      have HIM := Lib.hid him
      clear him hok
      obtain ⟨ib, iv, idt⟩ := im
      simp only at c0 c1 c2
      by_cases he : ib = b
      case pos =>
        have hr : rget A b = idt := by
          unfold rget
          rw [find_some_take hlt HF.out (by rw [HIM.out]; simpa using he), HIM.out]; rfl
        have HR := Lib.hid hr
        have he2 : ((ib : Int) == b) = true := beq_iff_eq.2 he
        clear hr he
        go_wp2_with fail
        go_ret
        exact ⟨by rw [HR.out]; rfl, Below.refl _ _⟩
      case neg =>
        have hst := find_none_take hlt HF.out (by rw [HIM.out]; simpa using he)
        have HST := Lib.hid hst
        have he2 : ((ib : Int) == b) = false := beq_eq_false_iff_ne.2 he
        clear hst he
        go_wp2_with fail
        go_roundg (A.length - (k + 1))
        case measure => omega
        case rel => exact ⟨k + 1, by omega, rfl, by go_num, HST.out, rfl⟩

/-- does a list of images read what the array has? -/
def rreads (A L : List Img) : Bool := L.all fun i => (rget A i.block).toList == i.data.toList

theorem rreads_step {A L : List Img} {k : Nat} {ib iv : Int} {idt : Str} (hlt : k < L.length) (h : rreads A (L.take k) = true) (him : L.getD k default = ⟨ib, iv, idt⟩) (hq : (ByteArray.toList (rget A ib) == ByteArray.toList idt) = true) : rreads A (L.take (k + 1)) = true := by
  unfold rreads at h ⊢
  rw [take_step hlt, List.all_append, h, him]
  simp [hq]
theorem rreads_false {A L : List Img} {k : Nat} {ib iv : Int} {idt : Str} (hlt : k < L.length) (him : L.getD k default = ⟨ib, iv, idt⟩) (hq : (ByteArray.toList (rget A ib) == ByteArray.toList idt) = false) : rreads A L = false := by
  unfold rreads
  rw [List.all_eq_false]
  refine ⟨L.getD k default, ?_, by rw [him]; simp [hq]⟩
  rw [List.getD_eq_getElem?_getD, List.getElem?_eq_getElem hlt]
  exact List.getElem_mem _

set_option maxHeartbeats 2000000 in
theorem rreads_any {w : World} {a l : Option Addr} {A L : List Img} (h : ImgsAt w a A) (hL : ImgsAt w l L) (cap cap' : Nat) :
    Calls Tryz.prog 33 #[.slice a A.length cap, .slice l L.length cap'] w fun e w' => e = .returned (.bool (rreads A L)) ∧ Below w.heap.size w w' := by
  have hbig := hL.2.1
  go_enter Tryz.func33, Tryz.ntmps33
  go_wp2_with fail
  go_loopg [5] L.length (fun q s5 wr => ∃ k : Nat, k ≤ L.length ∧ q = L.length - k ∧ s5 = .int .i64 k ∧ rreads A (L.take k) = true ∧ Below w.heap.size w wr)
  case atStart => exact ⟨0, Nat.zero_le _, rfl, rfl, rfl, Below.refl _ w⟩
  case round =>
    obtain ⟨k, hk, rfl, rfl, hf, hB⟩ := hrel
    have HF := Lib.hid hf
    clear hf
    by_cases hlt : k < L.length
    case neg =>
      obtain rfl : k = L.length := by omega
      have hr : rreads A L = true := by have := HF.out; rwa [List.take_length] at this
      have HR := Lib.hid hr
      clear hr
      go_wp2_with fail
      go_ret
      exact ⟨by rw [HR.out]; rfl, hB⟩
    case pos =>
      have hC := (Chg.refl [] w).ofBelow hB
      obtain ⟨bb, oo, rfl, c0, c1, c2, hok⟩ := (hL.chg hC (by simp)).at_ hlt
      have hA := h.chg hC (by simp)
      obtain ⟨im, him⟩ : ∃ im, L.getD k default = im := ⟨_, rfl⟩
      rw [him] at c0 c1 c2
      have HIM := Lib.hid him
      clear him hok
      obtain ⟨ib, iv, idt⟩ := im
      simp only at c0 c1 c2
      go_wp2_with fail
      go_region_held3 (fun w' => w'.cell? ⟨bb, oo + k * 3, none⟩ = some (.int .i64 ib) ∧ w'.cell? ⟨bb, oo + k * 3 + 2, none⟩ = some (.string idt))
        (first | (exact ⟨(hCa.cell (lt_of_cell c0) (by simp)).trans c0, (hCa.cell (lt_of_cell c2) (by simp)).trans c2⟩) | go_keep)
        (first | (go_at_call 106; refine (get_any (hA.chg ((Chg.refl [] wr).drew) (by simp)) cap ib).mono ?_; rintro e wa ⟨rfl, hba⟩; have hCa := ((Chg.refl [] wr).drew).ofBelow hba) | (fail))
      all_goals
        cases hq : (ByteArray.toList (rget A ib) == ByteArray.toList idt)
        · have hr : rreads A L = false := rreads_false hlt HIM.out hq
          have HR := Lib.hid hr
          clear hr
          go_wp2_with fail
          go_ret
          exact ⟨by rw [HR.out]; rfl, hB.trans ((hCa.below (Nat.le_refl _) (by simp)).mono hB.size)⟩
        · have hr : rreads A (L.take (k + 1)) = true := rreads_step hlt HF.out HIM.out hq
          have HR := Lib.hid hr
          clear hr
          go_wp2_with fail
          go_roundg (L.length - (k + 1))
          case measure => omega
          case rel => exact ⟨k + 1, by omega, rfl, by go_num, HR.out, hB.trans ((hCa.below (Nat.le_refl _) (by simp)).mono hB.size)⟩

end Go.Proofs.YteokjobkjmibfaaGreat
