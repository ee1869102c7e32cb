/- The method Nodes of a table of leases hands back the keys of its map, rising, in a new slice. Condition: at most a million entries. -/
import Derived.Test.YtbekjfbaelobdaaC
import Derived.Lib.SlMapMerge
namespace Go.Proofs.Ytbekjfbaelobdaa
open Go.RowKit Go.Maps Go.Sort Go.Shelf

/-- slices.Sort's two contracts at this dump, at the fence that asks nothing. -/
theorem sortsA (m : Nat) : AnyZI.SortsIn Try.prog Try.sortedA_ren Fence.wide m :=
  ⟨fun blk off cap ss W hH hblk hsz => callsIn_wide.2 (AnyM.slices_Sort_int Try.laysSlM5_f41 blk off cap ss W hH hblk hsz),
   fun p cap W => callsIn_wide.2 (AnyM.slices_Sort_int_none Try.laysSlM5_f41 p cap W)⟩

/-- what Nodes hands back: a new slice that holds the keys, rising -/
def NodesPost (f : Int → Option Int) (w : World) (e : Ending) (w' : World) : Prop :=
  ∃ (v : Value) (l : List Int), e = .returned v ∧ w'.ownsRow w.heap.size 3 1 v l.length (l.map encZ) ∧ (v = .slice none 0 0 ↔ l = []) ∧ l.Pairwise (· ≤ ·) ∧ l.Nodup ∧ (∀ x, x ∈ l ↔ (f x).isSome = true) ∧ (∀ x ∈ l, wf64 x) ∧ Below w.heap.size w w'

theorem intKeys_mem {D : DataW Unit} {b n : Nat} {w : World} (h : w.ownsMap Try.prog 3 (plainElem Try.prog 3) b n D) : (intKeys D).Nodup ∧ (∀ x, x ∈ intKeys D ↔ Maps.has D (.int .i64 x) = true) ∧ ∀ x ∈ intKeys D, wf64 x := by
  obtain ⟨es, rfl, hp, hk⟩ := h.canonK law3
  have hap := Maps.apart_of_rising hp
  have hk' : ∀ p ∈ es, ∃ x : Int, p.1 = .int .i64 x ∧ wf64 x := fun p hp => by
    obtain ⟨v, hv⟩ := hk p hp
    obtain ⟨x, _, hx, hw⟩ := Maps.keyOf_i64 Try.underlying3 hv
    exact ⟨x, hx, hw⟩
  refine ⟨?_, ?_, ?_⟩
  · show (es.map fun p => Go.intOf p.1).Nodup
    refine List.pairwise_map.2 (hap.imp_of_mem fun {p q} hp' hq' hne e => hne ?_)
    obtain ⟨a, ha, _⟩ := hk' p hp'
    obtain ⟨b, hb, _⟩ := hk' q hq'
    rw [ha, hb] at e ⊢
    exact congrArg _ e
  · intro x
    rw [has_eq, List.any_eq_true]
    show x ∈ (es.map fun p => Go.intOf p.1) ↔ _
    rw [List.mem_map]
    constructor
    · rintro ⟨p, hp', rfl⟩
      obtain ⟨a, ha, _⟩ := hk' p hp'
      exact ⟨p, hp', by rw [ha]; simp [Lit.sameKey, Go.intOf]⟩
    · rintro ⟨p, hp', hs⟩
      obtain ⟨a, ha, _⟩ := hk' p hp'
      rw [ha] at hs
      exact ⟨p, hp', by rw [ha]; simpa [Lit.sameKey, Go.intOf] using hs⟩
  · intro x hx
    obtain ⟨p, hp', rfl⟩ := List.mem_map.1 (show x ∈ es.map fun p => Go.intOf p.1 from hx)
    obtain ⟨a, ha, hw⟩ := hk' p hp'
    rw [ha]; exact hw

set_option maxHeartbeats 1000000 in
theorem nodes_any {w : World} {b bm n : Nat} {T : Int} {f : Int → Option Int} (h : TableAt w b bm T n f) (hn : n ≤ 1000000) :
    Calls Try.prog 19 #[.pointer (some ⟨b, 0, none⟩)] w (NodesPost f w) := by
  obtain ⟨hB, ⟨D0, hown, hD⟩, hne⟩ := h
  have hsz := hown.size_le
  have hmax : Maps.size D0 ≤ maxLen := by unfold maxLen; omega
  have hbytes : Maps.size D0 * 8 ≤ 140737488355328 := by omega
  have c1 := hB.cell 1 (by rfl)
  have hT : TableAt w b bm T n f := ⟨hB, ⟨D0, hown, hD⟩, hne⟩
  have hkeys := intKeys_mem hown
  refine (callsIn_wide (n := 6)).1 ?_
  have hbl := hown.lt
  have hseq : SeqGives Fence.wide 2 Try.prog 42 #[.pointer (some ⟨w.heap.size, 0, none⟩)] encZ (fun ss => ss.Perm (intKeys D0)) (Maps.size D0) (w.alloc (.cells #[.map (some bm)] 46)) :=
    AnyZI.keys_gives (ρ := Try.keysA_ren) { Try.keysA with } Fence.wide _ trivial rfl (by omega) w.heap.size bm n D0 _ (by simp) (by simp) (by
      obtain ⟨es, clock, hb, Ft, hs, hD⟩ := hown
      exact ⟨es, clock, (Below.heap_alloc _ _ bm hbl).trans hb, Ft, hs, hD⟩)
  have cK : ∀ mb W, CallsIn Fence.wide 5 Try.prog 32 #[.map mb] W fun e w' => e = .returned (.func (.func 42) #[] #[.pointer (some ⟨W.heap.size, 0, none⟩)]) ∧ w' = W.alloc (.cells #[.map mb] 46) := fun mb W => AnyZI.keys_in Try.keysA Fence.wide 5 trivial rfl mb W
  have cS := AnyZI.sorted_in Try.sortedA Fence.wide 5 trivial trivial trivial trivial rfl (by omega) (sortsA _) (enters_of Try.func41 (by kernel_rfl) rfl) 42 #[.pointer (some ⟨w.heap.size, 0, none⟩)] trivial (enters_of Try.func42 (by kernel_rfl) rfl) _ _ hmax hbytes _ hseq
  change CallsIn _ _ Try.prog 31 _ _ _ at cS
  have cN := (callsIn_wide (n := 5)).2 (tnone_any hT)
  have hfK : Fence.wide.fn 32 := trivial
  have hfS : Fence.wide.fn 31 := trivial
  have hfN : Fence.wide.fn 28 := trivial
  refine callsIn_of_wp Try.func19 rfl trivial ?_ rfl
  simp only [Try.ntmps19, List.size_toArray, List.length_cons, List.length_nil, Nat.reduceAdd, Nat.reduceSub, Array.replicate_succ, Array.replicate_zero, List.push_toArray, List.append_toArray, List.nil_append, List.cons_append]
  gi_wp2_with (first
    | (gi_at_call 28; refine cN.mono ?_; rintro e w' ⟨rfl, rfl⟩)
    | (gi_at_call 32; refine (cK _ _).mono ?_; rintro e w' ⟨rfl, rfl⟩)
    | (gi_at_call 31; refine cS.mono ?_; rintro e w' ⟨v, ss, rfl, hS, hrow, hnil, hb⟩))
  go_ret
  have hperm := (List.mergeSort_perm ss fun x y => decide (x ≤ y))
  refine ⟨v, ss.mergeSort (fun x y => decide (x ≤ y)), rfl, ?_, ?_, ?_, ?_, ?_, ?_, ((Below.refl _ w).alloc (Nat.le_refl _) _).trans (hb.mono (by simp))⟩
  · rw [List.length_mergeSort]; exact ownsRow_base_a hrow (by simp)
  · rw [hnil]; constructor
    · rintro rfl; exact List.mergeSort_nil
    · intro e; exact (List.nil_perm.1 (e ▸ hperm : ([] : List Int).Perm ss))
  · have := List.pairwise_mergeSort (le := fun x y : Int => decide (x ≤ y)) (fun a b c h1 h2 => by simp only [decide_eq_true_eq] at *; omega) (fun a b => by simp only [Bool.or_eq_true, decide_eq_true_eq]; omega) ss
    exact this.imp (fun h => by simpa using h)
  · exact (hperm.trans hS).nodup_iff.2 hkeys.1
  · intro x; rw [(hperm.trans hS).mem_iff, hkeys.2.1 x, (hD x).1]
  · intro x hx; exact hkeys.2.2 x ((hperm.trans hS).mem_iff.1 hx)

end Go.Proofs.Ytbekjfbaelobdaa
