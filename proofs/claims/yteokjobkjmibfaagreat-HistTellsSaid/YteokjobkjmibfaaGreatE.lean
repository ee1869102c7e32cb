/- maps.Keys and slices.Sorted, as Play calls them: the keys of an array's map, rising, in a new slice; strings.Clone. Condition: at most a billion entries. -/
import Derived.Test.YteokjobkjmibfaaGreatD
import Derived.Lib.SlMapMerge
namespace Go.Proofs.YteokjobkjmibfaaGreat
open Go.RowKit Go.Maps Go.Sort Go.Shelf

/-- slices.Sort's two contracts at this dump, at the fence that asks nothing. -/
theorem sortsA (m : Nat) : AnyZI.SortsIn Tryz.prog Tryz.sortedA_ren Fence.wide m :=
  ⟨fun blk off cap ss W hH hblk hsz => callsIn_wide.2 (AnyM.slices_Sort_int Tryz.laysSlM5_f26 blk off cap ss W hH hblk hsz),
   fun p cap W => callsIn_wide.2 (AnyM.slices_Sort_int_none Tryz.laysSlM5_f26 p cap W)⟩

/-- what Sorted hands back: a new slice that holds the keys, rising -/
def KeysPost (f : Arr) (w : World) (e : Ending) (w' : World) : Prop :=
  ∃ (v : Value) (l : List Int), e = .returned v ∧ w'.ownsRow w.heap.size 3 1 v l.length (l.map encZ) ∧ (v = .slice none 0 0 ↔ l = []) ∧ l.Pairwise (· ≤ ·) ∧ l.Nodup ∧ (∀ x, x ∈ l ↔ (f x).isSome = true) ∧ (∀ x ∈ l, wf64 x) ∧ l.length ≤ 1000000000 ∧ Below w.heap.size w w'

theorem intKeys_mem {D : DataW Unit} {b n : Nat} {w : World} (h : w.ownsMap Tryz.prog 3 (plainElem Tryz.prog 9) b n D) : (intKeys D).Nodup ∧ (∀ x, x ∈ intKeys D ↔ Maps.has D (.int .i64 x) = true) ∧ ∀ x ∈ intKeys D, wf64 x := by
  obtain ⟨es, rfl, hp, hk⟩ := h.canonK law3
  have hap := Maps.apart_of_rising hp
  have hk' : ∀ p ∈ es, ∃ x : Int, p.1 = .int .i64 x ∧ wf64 x := fun p hp => by
    obtain ⟨v, hv⟩ := hk p hp
    obtain ⟨x, _, hx, hw⟩ := Maps.keyOf_i64 Tryz.underlying3 hv
    exact ⟨x, hx, hw⟩
  refine ⟨?_, ?_, ?_⟩
  · show (es.map fun p => Go.intOf p.1).Nodup
    refine List.pairwise_map.2 (hap.imp_of_mem fun {p q} hp' hq' hne e => hne ?_)
    obtain ⟨a, ha, _⟩ := hk' p hp'
    obtain ⟨b, hb, _⟩ := hk' q hq'
    rw [ha, hb] at e ⊢
    exact congrArg _ e
  · intro x
    rw [has_eq, List.any_eq_true]
    show x ∈ (es.map fun p => Go.intOf p.1) ↔ _
    rw [List.mem_map]
    constructor
    · rintro ⟨p, hp', rfl⟩
      obtain ⟨a, ha, _⟩ := hk' p hp'
      exact ⟨p, hp', by rw [ha]; simp [Lit.sameKey, Go.intOf]⟩
    · rintro ⟨p, hp', hs⟩
      obtain ⟨a, ha, _⟩ := hk' p hp'
      rw [ha] at hs
      exact ⟨p, hp', by rw [ha]; simpa [Lit.sameKey, Go.intOf] using hs⟩
  · intro x hx
    obtain ⟨p, hp', rfl⟩ := List.mem_map.1 (show x ∈ es.map fun p => Go.intOf p.1 from hx)
    obtain ⟨a, ha, hw⟩ := hk' p hp'
    rw [ha]; exact hw

theorem keys_any (m : Option Nat) (w : World) : Calls Tryz.prog 31 #[.map m] w fun e w' => e = .returned (.func (.func 104) #[] #[.pointer (some ⟨w.heap.size, 0, none⟩)]) ∧ w' = w.alloc (.cells #[.map m] 75) :=
  (callsIn_wide (n := 5)).1 (AnyZI.keys_in Tryz.keysA Fence.wide 5 trivial rfl m w)

set_option maxHeartbeats 1000000 in
theorem sorted_any {w : World} {bm n : Nat} {f : Arr} (h : SMap w bm n f) (hn : n ≤ 1000000000) {cb : Nat} (hc : w.cell? ⟨cb, 0, none⟩ = some (.map (some bm))) :
    Calls Tryz.prog 30 #[.func (.func 104) #[] #[.pointer (some ⟨cb, 0, none⟩)]] w (KeysPost f w) := by
  obtain ⟨D0, hown, hD⟩ := h
  have hsz := hown.size_le
  have hmax : Maps.size D0 ≤ maxLen := by unfold maxLen; omega
  have hbytes : Maps.size D0 * 8 ≤ 140737488355328 := by omega
  have hkeys := intKeys_mem hown
  have hlk : (intKeys D0).length = Maps.size D0 := by
    obtain ⟨es, rfl, _, _⟩ := hown.canonK law3
    show (es.map _).length = _
    simp [Maps.size]
  have hbl := hown.lt
  have hcl := lt_of_cell hc
  have hseq : SeqGives Fence.wide 2 Tryz.prog 104 #[.pointer (some ⟨cb, 0, none⟩)] encZ (fun ss => ss.Perm (intKeys D0)) (Maps.size D0) w :=
    AnyZI.keys_gives (ρ := Tryz.keysA_ren) { Tryz.keysA with } Fence.wide _ trivial rfl (by omega) cb bm n D0 _ hcl hc hown
  have cS := AnyZI.sorted_in Tryz.sortedA Fence.wide 5 trivial trivial trivial trivial rfl (by omega) (sortsA _) (enters_of Tryz.func103 (by kernel_rfl) rfl) 104 #[.pointer (some ⟨cb, 0, none⟩)] trivial (enters_of Tryz.func104 (by kernel_rfl) rfl) _ _ hmax hbytes _ hseq
  change CallsIn _ _ Tryz.prog 30 _ _ _ at cS
  refine ((callsIn_wide).1 cS).mono ?_
  rintro e w' ⟨v, ss, rfl, hS, hrow, hnil, hb⟩
  have hperm := (List.mergeSort_perm ss fun x y => decide (x ≤ y))
  refine ⟨v, ss.mergeSort (fun x y => decide (x ≤ y)), rfl, ?_, ?_, ?_, ?_, ?_, ?_, ?_, hb⟩
  · rw [List.length_mergeSort]; exact hrow
  · rw [hnil]; constructor
    · rintro rfl; exact List.mergeSort_nil
    · intro e; exact (List.nil_perm.1 (e ▸ hperm : ([] : List Int).Perm ss))
  · have := List.pairwise_mergeSort (le := fun x y : Int => decide (x ≤ y)) (fun a b c h1 h2 => by simp only [decide_eq_true_eq] at *; omega) (fun a b => by simp only [Bool.or_eq_true, decide_eq_true_eq]; omega) ss
    exact this.imp (fun h => by simpa using h)
  · exact (hperm.trans hS).nodup_iff.2 hkeys.1
  · intro x; rw [(hperm.trans hS).mem_iff, hkeys.2.1 x, (hD x).1]
  · intro x hx; exact hkeys.2.2 x ((hperm.trans hS).mem_iff.1 hx)
  · rw [(hperm.trans hS).length_eq, hlk]; omega

theorem clone_any (s : Str) (w : World) (hs : s.size ≤ 281474976710656) : Calls Tryz.prog 32 #[.string s] w fun e w' => e = .returned (.string s) ∧ Below w.heap.size w w' := by
  have hC := Tryz.stringslite_Clone s w hs
  go_enter Tryz.func32, Tryz.ntmps32
  go_wp2_with fail
  refine hC.mono ?_
  rintro e w' ⟨rfl, hb⟩
  go_wp2_with fail
  go_ret
  exact ⟨rfl, hb⟩

end Go.Proofs.YteokjobkjmibfaaGreat
