/- Small laws on slices of whole numbers: one that came in, and one that the call itself appends to. Conditions: those that each law names. -/
import Derived.Test.YtbekjfbaelobdaaK
namespace Go.Proofs.Ytbekjfbaelobdaa
open Go.RowKit Go.Maps

/-- A slice of integers that came in: it is nil; or it leads to a row of 'cap' cells, the numbers 'zs' (the first 'len' are its elements), each fitting its kind. -/
def IsRow (k : IntKind) (w : World) (a : Option Addr) (len cap : Nat) (zs : List Int) : Prop :=
  (a = none ∧ len = 0 ∧ cap = 0 ∧ zs = []) ∨
  ∃ x, a = some x ∧ len ≤ cap ∧ cap ≤ maxLen ∧ zs.length = cap ∧ (∀ i, i < zs.length → w.cell? (x.add i) = some (.int k (zs.getD i 0))) ∧ ∀ n ∈ zs, (Lit.int k n).wf = true

theorem range64 {x : Int} (h : (Lit.int .i64 x).wf = true) : -9223372036854775808 ≤ x ∧ x ≤ 9223372036854775807 := by
  simp only [Lit.wf, IntKind.min, IntKind.max, IntKind.signed, IntKind.bits, Bool.and_eq_true, decide_eq_true_eq, if_true] at h
  omega

theorem lt_of_cell {w : World} {a : Addr} {v : Value} (h : w.cell? a = some v) : a.block < w.heap.size := by
  unfold World.cell? at h
  split at h
  · exact lt_of_block (by assumption)
  · cases h

theorem IsRow.len_le {w : World} {a : Option Addr} {len cap : Nat} {zs : List Int} (h : IsRow .i64 w a len cap zs) : len ≤ maxLen := by
  rcases h with ⟨_, h, _, _⟩ | ⟨x, _, h1, h2, _⟩ <;> omega

/-- where there is an element: the address, the cells, in every later world that keeps what was there -/
theorem IsRow.at_ {w : World} {a : Option Addr} {len cap : Nat} {zs : List Int} (h : IsRow .i64 w a len cap zs) {i : Nat} (hi : i < len) :
    ∃ b off, a = some ⟨b, off, none⟩ ∧ b < w.heap.size ∧ (∀ j, j < len → w.cell? ⟨b, off + j, none⟩ = some (.int .i64 (zs.getD j 0))) ∧ ∀ j, j < len → -9223372036854775808 ≤ zs.getD j 0 ∧ zs.getD j 0 ≤ 9223372036854775807 := by
  rcases h with ⟨_, h, _, _⟩ | ⟨x, rfl, h1, h2, h3, h4, h5⟩
  · omega
  · obtain ⟨b, off, spot⟩ := x
    have hc := h4 0 (by omega)
    have e0 : (⟨b, off, spot⟩ : Addr).add 0 = ⟨b, off, spot⟩ := by simp [Addr.add]
    rw [e0] at hc
    have hspot : spot = none := World.cell?_spot hc
    subst hspot
    refine ⟨b, off, rfl, lt_of_cell hc, fun j hj => ?_, fun j hj => range64 (h5 _ ?_)⟩
    · have := h4 j (by omega)
      rw [← this]
      simp only [Addr.add]
      split
      · rename_i h0; subst h0; rfl
      · rfl
    rw [List.getD_eq_getElem?_getD, List.getElem?_eq_getElem (by omega)]
    exact List.getElem_mem _

theorem info3 : (Try.prog.info? 3).map (fun i => (i.zero, i.size, i.bytes)) = some (some (.int .i64 0), 1, 8) := by kernel_rfl

theorem ownsRow_shape {w : World} {base : Nat} {e : TypeId} {size : Nat} {v : Value} {n : Nat} {xs : List Value} (h : w.ownsRow base e size v n xs) : ∃ a cap, v = .slice a n cap ∧ ∀ b, a = some b → base ≤ b.block := by
  rcases h.2 with ⟨rfl, rfl⟩ | ⟨g, cap, cur, rfl, hb, _⟩
  · exact ⟨none, 0, rfl, fun b hb => by cases hb⟩
  · exact ⟨_, cap, rfl, fun b hb' => by cases hb'; exact hb⟩

theorem ownsRow_chg {w w' : World} {base : Nat} {e : TypeId} {size : Nat} {v : Value} {n : Nat} {xs : List Value} (h : w.ownsRow base e size v n xs) {S : List Nat} (hc : Chg S w w') (hn : ∀ k ∈ S, k < base) : w'.ownsRow base e size v n xs := by
  refine ⟨h.1, ?_⟩
  rcases h.2 with h2 | ⟨g, cap, cur, rfl, hb, hg, r⟩
  · exact .inl h2
  · exact .inr ⟨g, cap, cur, rfl, hb, hc.blk hg (fun hm => by have := hn g hm; omega), r⟩

/-- the cells of an owned row of whole numbers -/
theorem ownsRow_cell {w : World} {base n cap : Nat} {a : Option Addr} {L : List Int} (h : w.ownsRow base 3 1 (.slice a n cap) n (L.map (Value.int .i64))) {i : Nat} (hi : i < n) :
    ∃ g, a = some ⟨g, 0, none⟩ ∧ base ≤ g ∧ w.cell? ⟨g, i, none⟩ = some (.int .i64 (L.getD i 0)) := by
  rcases h.2 with ⟨_, h0⟩ | ⟨g, c, cur, he, hb, hg, _, _, hs, ht⟩
  · omega
  · cases he
    refine ⟨g, rfl, hb, ?_⟩
    have hL : n = L.length := by have := h.1; simp at this; omega
    have h1 : (cur.toList.take (n * 1))[i]? = (L.map (Value.int .i64))[i]? := by rw [ht]
    rw [List.getElem?_take_of_lt (by omega), List.getElem?_map, List.getElem?_eq_getElem (by omega : i < L.length)] at h1
    simp only [World.cell?, hg]
    rw [List.getD_eq_getElem?_getD, List.getElem?_eq_getElem (by omega : i < L.length)]
    simpa using h1

theorem wpList_append_I (w : World) {ops : Array Oper} {rest : List Oper} {o : Oper} {a : Act} {Q : Exit → Act → World → Prop} (hgd : o.guard = none) (s x : Operand)
    (ho : o.op = .call { callee := .builtin .append, args := #[s, x], argTypes := #[22, 22] })
    (base : Nat) (sa : Option Addr) (n cap : Nat) (L : List Int) (hs : a.eval s = .slice sa n cap) (hown : w.ownsRow base 3 1 (.slice sa n cap) n (L.map (Value.int .i64)))
    (g : Nat) (v : Int) (hx : a.eval x = .slice (some ⟨g, 0, none⟩) 1 1) (hcell : w.cell? ⟨g, 0, none⟩ = some (.int .i64 v)) (hn : n < 1000000000) (hbase : base ≤ w.heap.size)
    (h : ∀ a' cap' w', w'.ownsRow base 3 1 (.slice a' (n + 1) cap') (n + 1) ((L ++ [v]).map (Value.int .i64)) → w.grownBy w' (Value.slice sa n cap).ownBlock → (∀ k, (Value.slice sa n cap).ownBlock = some k → base ≤ k) → wpList Try.prog ops Q rest (a.put o.dst (.slice a' (n + 1) cap')) w') : wpList Try.prog ops Q (o :: rest) a w := by
  obtain ⟨i0, hi, hz0, hz1, hz2⟩ := info_parts info3
  refine wpList_append_own w hgd s x 22 ho base 3 i0 (.int .i64 0) 1 8 Try.underlying22 hi hz0 hz1 hz2 rfl (by decide) _ n _ hs hown ⟨g, 0, none⟩ 1 1 [.int .i64 v] hx rfl ?_ (by simp [Value.oneCell']) (by unfold maxLen; omega) (by omega) hbase ?_
  · intro j u hj
    cases j with
    | zero => simp at hj; subst hj; simpa [Addr.add] using hcell
    | succ j => simp at hj
  · intro v' w' h1 h2 _
    obtain ⟨a', cap', rfl, _⟩ := ownsRow_shape h1
    exact h a' cap' w' (by simpa using h1) h2 (fun k hk => (hown.lt k hk).1)

end Go.Proofs.Ytbekjfbaelobdaa
