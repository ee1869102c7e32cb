/- An argument that is a slice of slices of numbers, opened. No condition. -/
import Derived.Test.YteokjobkjmibfaaPw
import Derived.Deep.Matrix
import Derived.ProofKit
import Derived.OpenShut
namespace Go.Proofs.Yteokjobkjmibfaa
open Go.RowKit Go.Maps

theorem cellsOf30 : Try.prog.cellsOf 30 = 1 := by kernel_rfl
theorem cellsOf3 : Try.prog.cellsOf 3 = 1 := by kernel_rfl

theorem add_flat (b o r : Nat) : (⟨b, o, none⟩ : Addr).add r = ⟨b, o + r, none⟩ := by
  unfold Addr.add
  split
  · rename_i h; subst h; rfl
  · rfl

theorem rows_open {H : Type} {enc : TypeId × Value → H} {w : World} {held : Bool} {base fuel : Nat} {a : Option Addr} {len cap : Nat} {x : DataW H × List MemPlace} (h : DataW.trod enc Try.prog w base (fun _ => true) held fuel 22 [.slice a len cap] = some x) :
    ∃ X : List (List Int), X.length = len ∧ RowsAt w a X := by
  rcases Go.Deep.open_int_rows Try.underlying22 Try.underlying30 Try.underlying3 cellsOf30 cellsOf3 h with ⟨hcs, _⟩ | ⟨p, l, c, A, L, C, Z, hcs, _, hl, hm, _, hrows⟩
  · obtain ⟨rfl, rfl, rfl⟩ : a = none ∧ len = 0 ∧ cap = 0 := by simpa using hcs
    exact ⟨[], rfl, by simp, .inl rfl⟩
  · obtain ⟨rfl, rfl, rfl⟩ : a = some p ∧ len = l ∧ cap = c := by simpa using hcs
    refine ⟨(List.range len).map fun r => (Z r).take (L r), by simp, fun y hy z hz => ?_, ?_⟩
    · obtain ⟨r, hr, rfl⟩ := List.mem_map.1 hy
      exact (hrows r (by have := List.mem_range.1 hr; omega)).2.2.2.2.1 z (List.mem_of_mem_take hz)
    · by_cases h0 : len = 0
      · left; subst h0; rfl
      · right
        obtain ⟨b, o, spot⟩ := p
        have hspot : spot = none := by
          have h1 := (hrows 0 (by omega)).1
          simp only [Addr.add] at h1
          exact World.cell?_spot h1
        subst hspot
        refine ⟨b, o, rfl, fun r hr => ?_⟩
        have hrl : r < len := by simpa using hr
        obtain ⟨r1, r2, r3, r4, r5, r6, r7⟩ := hrows r (by omega)
        have hX : ((List.range len).map fun r => (Z r).take (L r)).getD r [] = (Z r).take (L r) := by
          rw [List.getD_eq_getElem?_getD]; simp [hrl]
        have hXl : ((Z r).take (L r)).length = L r := by rw [List.length_take]; omega
        rw [hX]
        refine ⟨A r, C r, by rw [hXl, ← add_flat]; exact r1, ?_⟩
        by_cases hL0 : L r = 0
        · left; rw [hL0]; rfl
        · right
          cases hA : A r with
          | none => have := r6 hA; omega
          | some p' =>
            obtain ⟨b', o', spot'⟩ := p'
            have hr7 := (r7 _ hA).2
            have hspot' : spot' = none := by
              have h1 := hr7 0 (by omega)
              simp only [Addr.add] at h1
              exact World.cell?_spot h1
            subst hspot'
            refine ⟨b', o', rfl, fun i hi => ?_⟩
            rw [hXl] at hi
            rw [← add_flat, hr7 i (by omega), List.getD_eq_getElem?_getD, List.getD_eq_getElem?_getD, List.getElem?_take_of_lt hi]

end Go.Proofs.Yteokjobkjmibfaa
