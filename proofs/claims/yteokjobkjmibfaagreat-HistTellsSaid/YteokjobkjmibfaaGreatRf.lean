/- Rows of the reference's events that a call owns. Condition: at most a million. Printed by wip/tools/revents.py. -/
import Derived.Test.YteokjobkjmibfaaGreatRe
namespace Go.Proofs.YteokjobkjmibfaaGreat
open Go.RowKit Go.Maps

/-- a slice of events that owns its row -/
def OwnR (w : World) (a : Option Addr) (cap : Nat) (L : List Ev) : Prop :=
  (∀ e ∈ L, e.ok) ∧ ((a = none ∧ cap = 0 ∧ L = []) ∨ ∃ g cur, a = some ⟨g, 0, none⟩ ∧ Blk w g cur 71 ∧ L.length ≤ cap ∧ cap ≤ maxLen ∧ cur.size = cap * 6 ∧ ∀ k, k < L.length → EvAt cur k (L.getD k default))

theorem OwnR.nil (w : World) : OwnR w none 0 [] := ⟨by simp, .inl ⟨rfl, rfl, rfl⟩⟩

theorem OwnR.row {w : World} {a : Option Addr} {cap : Nat} {L : List Ev} (h : OwnR w a cap L) (hl : L.length ≤ 1000000) : EvRow w a L := by
  obtain ⟨h1, ⟨rfl, rfl, rfl⟩ | ⟨g, cur, rfl, hB, h2, h3, h4, h5⟩⟩ := h
  · exact ⟨h1, hl, .inl rfl⟩
  · exact ⟨h1, hl, .inr ⟨g, 0, rfl, blk_cells hB h5⟩⟩

theorem OwnR.chg {w w' : World} {a : Option Addr} {cap : Nat} {L : List Ev} (h : OwnR w a cap L) {S : List Nat} (hc : Chg S w w') (hn : ∀ g, blkOf a = some g → g ∉ S) : OwnR w' a cap L := by
  obtain ⟨h1, h2 | ⟨g, cur, rfl, hB, r⟩⟩ := h
  · exact ⟨h1, .inl h2⟩
  · exact ⟨h1, .inr ⟨g, cur, rfl, hB.chg hc (hn g rfl), r⟩⟩

theorem OwnR.lt {w : World} {a : Option Addr} {cap : Nat} {L : List Ev} (h : OwnR w a cap L) {g : Nat} (hg : blkOf a = some g) : g < w.heap.size := by
  obtain ⟨h1, ⟨rfl, _⟩ | ⟨g', cur, rfl, hB, r⟩⟩ := h
  · cases hg
  · cases hg; exact hB.lt

theorem OwnR.toRow {w : World} {a : Option Addr} {cap : Nat} {L : List Ev} (h : OwnR w a cap L) : w.ownsRow 0 71 6 (.slice a L.length cap) L.length (L.flatMap Ev.six) := by
  obtain ⟨h1, ⟨rfl, rfl, rfl⟩ | ⟨g, cur, rfl, hB, h2, h3, h4, h5⟩⟩ := h
  · exact World.ownsRow_nil _ _ _ _
  · exact ⟨flat_len _ 6 (fun _ => rfl) L, .inr ⟨g, cap, cur, rfl, Nat.zero_le _, hB, h2, h3, h4, at_flat (by omega) h5⟩⟩

theorem OwnR.ofRow {w : World} {a : Option Addr} {cap : Nat} {L : List Ev} (hok : ∀ e ∈ L, e.ok) (h : w.ownsRow 0 71 6 (.slice a L.length cap) L.length (L.flatMap Ev.six)) : OwnR w a cap L := by
  refine ⟨hok, ?_⟩
  rcases h.2 with ⟨he, h0⟩ | ⟨g, c, cur, he, hb, hg, h1, h2, h3, h4⟩
  · have hl : L = [] := List.eq_nil_of_length_eq_zero h0
    subst hl
    cases he; exact .inl ⟨rfl, rfl, rfl⟩
  · cases he; exact .inr ⟨g, cur, rfl, hg, h1, h2, h3, flat_at h4⟩

theorem info71 : (Tryz.prog.info? 71).map (fun i => (i.zero, i.size, i.bytes)) = some (some (.agg #[.int .i64 0, .int .i64 0, .int .u64 0, .int .u64 0, .slice none 0 0, .slice none 0 0]), 6, 80) := by kernel_rfl
/-- append of one event -/
theorem appendR_run (w : World) (ty : TypeId) {a : Option Addr} {cap : Nat} {L : List Ev} (h : OwnR w a cap L) (hl : L.length < 1000000) (g c : Nat) (e : Ev) (he : e.ok) (hc : ∀ r, r < 6 → w.cell? ⟨g, r, none⟩ = (Ev.six e)[r]?) :
    ∃ a' cap' w', (Builtin.append_ #[44, 44] ty #[.slice a L.length cap, .slice (some ⟨g, 0, none⟩) 1 c]).run Tryz.prog w = .ok (.slice a' (L.length + 1) cap') w' ∧ OwnR w' a' cap' (L ++ [e]) ∧ w.grownBy w' (blkOf a) ∧ (blkOf a' = blkOf a ∨ blkOf a' = some w.heap.size) := by
  obtain ⟨i0, hi, hz0, hz1, hz2⟩ := info_parts info71
  obtain ⟨v', w', hr, h1, h2, _, h4⟩ := run_append_own_at (P := Tryz.prog) w 0 44 ty 71 i0 _ 6 80 Tryz.underlying44 hi hz0 hz1 hz2 rfl (by decide) _ _ _ h.toRow ⟨g, 0, none⟩ 1 c (Ev.six e) (by simp) (by
    intro j u hj
    have hjl : j < 6 := by have := (List.getElem?_eq_some_iff.1 hj).1; simpa using this
    rw [← hj, ← hc j hjl]
    simp only [Addr.add]
    split
    · rename_i h0; subst h0; rfl
    · simp
    ) (by intro u hu; simp only [List.mem_cons, List.not_mem_nil, or_false] at hu; rcases hu with rfl | rfl | rfl | rfl | rfl | rfl <;> rfl) (by unfold maxLen; omega) (by omega) (Nat.zero_le _)
  obtain ⟨a', cap', rfl, _⟩ := ownsRow_shape h1
  refine ⟨a', cap', w', hr, OwnR.ofRow (fun x hx => ?_) ?_, by rw [ownBlock_eq] at h2; exact h2, by rw [ownBlock_eq, ownBlock_eq] at h4; exact h4⟩
  · rcases List.mem_append.1 hx with hx | hx
    · exact h.1 x hx
    · rw [List.mem_singleton.1 hx]; exact he
  · rw [List.length_append, List.flatMap_append]
    simpa using h1

section
variable {ops : Array Oper} {rest : List Oper} {o : Oper} {a : Act} {Q : Exit → Act → World → Prop}
theorem wpList_appendR (w : World) (hgd : o.guard = none) (s x : Operand) (ho : o.op = .call { callee := .builtin .append, args := #[s, x], argTypes := #[44, 44] })
    (sa : Option Addr) (cap : Nat) (L : List Ev) (hs : a.eval s = .slice sa L.length cap) (hown : OwnR w sa cap L) (hl : L.length < 1000000)
    (g c : Nat) (e : Ev) (he : e.ok) (hx : a.eval x = .slice (some ⟨g, 0, none⟩) 1 c) (hc : ∀ r, r < 6 → w.cell? ⟨g, r, none⟩ = (Ev.six e)[r]?)
    (h : ∀ a' cap' w', OwnR w' a' cap' (L ++ [e]) → w.grownBy w' (blkOf sa) → (blkOf a' = blkOf sa ∨ blkOf a' = some w.heap.size) → wpList Tryz.prog ops Q rest (a.put o.dst (.slice a' (L.length + 1) cap')) w') : wpList Tryz.prog ops Q (o :: rest) a w := by
  refine wpList_plain hgd fun K hK => ?_
  obtain ⟨a', cap', w', hr, h1, h2, h3⟩ := appendR_run w o.type hown hl g c e he hc
  unfold Oper.wp execOp
  simp only [ho, resolve, invoke, builtin, Sem.run_bind, Sem.run_pure, Result.andThen_ok, List.map_toArray, List.map_cons, List.map_nil, hs, hx, hr]
  exact hK _ _ (h a' cap' w' h1 h2 h3)

theorem step_appendR {K : Act → World → Prop} {E : Prop} (w : World) (hgd : o.guard = none) (s x : Operand) (ho : o.op = .call { callee := .builtin .append, args := #[s, x], argTypes := #[44, 44] })
    (sa : Option Addr) (cap : Nat) (L : List Ev) (hs : a.eval s = .slice sa L.length cap) (hown : OwnR w sa cap L) (hl : L.length < 1000000)
    (g c : Nat) (e : Ev) (he : e.ok) (hx : a.eval x = .slice (some ⟨g, 0, none⟩) 1 c) (hc : ∀ r, r < 6 → w.cell? ⟨g, r, none⟩ = (Ev.six e)[r]?)
    (h : ∀ a' cap' w', OwnR w' a' cap' (L ++ [e]) → w.grownBy w' (blkOf sa) → (blkOf a' = blkOf sa ∨ blkOf a' = some w.heap.size) → K (a.put o.dst (.slice a' (L.length + 1) cap')) w') :
    if Region.wanted o (yielded ops a.tmps) = true then Oper.wp Tryz.prog o a w K Q else E := by
  have hw : Region.wanted o (yielded ops a.tmps) = true := by simp [Region.wanted, hgd]
  rw [if_pos hw]
  obtain ⟨a', cap', w', hr, h1, h2, h3⟩ := appendR_run w o.type hown hl g c e he hc
  unfold Oper.wp execOp
  simp only [ho, resolve, invoke, builtin, Sem.run_bind, Sem.run_pure, Result.andThen_ok, List.map_toArray, List.map_cons, List.map_nil, hs, hx, hr]
  exact h a' cap' w' h1 h2 h3
end

section
variable {ops : Array Oper} {rest : List Oper} {o : Oper} {a : Act} {Q : Exit → Act → World → Prop}
theorem wpList_appendRn (w : World) (hgd : o.guard = none) (s x : Operand) (ho : o.op = .call { callee := .builtin .append, args := #[s, x], argTypes := #[44, 44] })
    (sa : Option Addr) (cap n : Nat) (L : List Ev) (hn : L.length = n) (hs : a.eval s = .slice sa n cap) (hown : OwnR w sa cap L) (hl : L.length < 1000000)
    (g c : Nat) (e : Ev) (he : e.ok) (hx : a.eval x = .slice (some ⟨g, 0, none⟩) 1 c) (hc : ∀ r, r < 6 → w.cell? ⟨g, r, none⟩ = (Ev.six e)[r]?)
    (h : ∀ a' cap' w', OwnR w' a' cap' (L ++ [e]) → w.grownBy w' (blkOf sa) → (blkOf a' = blkOf sa ∨ blkOf a' = some w.heap.size) → wpList Tryz.prog ops Q rest (a.put o.dst (.slice a' (n + 1) cap')) w') : wpList Tryz.prog ops Q (o :: rest) a w := by
  subst hn
  exact wpList_appendR w hgd s x ho sa cap L hs hown hl g c e he hx hc h
theorem step_appendRn {K : Act → World → Prop} {E : Prop} (w : World) (hgd : o.guard = none) (s x : Operand) (ho : o.op = .call { callee := .builtin .append, args := #[s, x], argTypes := #[44, 44] })
    (sa : Option Addr) (cap n : Nat) (L : List Ev) (hn : L.length = n) (hs : a.eval s = .slice sa n cap) (hown : OwnR w sa cap L) (hl : L.length < 1000000)
    (g c : Nat) (e : Ev) (he : e.ok) (hx : a.eval x = .slice (some ⟨g, 0, none⟩) 1 c) (hc : ∀ r, r < 6 → w.cell? ⟨g, r, none⟩ = (Ev.six e)[r]?)
    (h : ∀ a' cap' w', OwnR w' a' cap' (L ++ [e]) → w.grownBy w' (blkOf sa) → (blkOf a' = blkOf sa ∨ blkOf a' = some w.heap.size) → K (a.put o.dst (.slice a' (n + 1) cap')) w') :
    if Region.wanted o (yielded ops a.tmps) = true then Oper.wp Tryz.prog o a w K Q else E := by
  subst hn
  exact step_appendR w hgd s x ho sa cap L hs hown hl g c e he hx hc h
end

end Go.Proofs.YteokjobkjmibfaaGreat
