/- Small laws on the slice of words (three whole numbers each) that LeaseSafe appends to and writes into. Conditions: those that each law names. -/
import Derived.Test.YtbekjfbaelobdaaT
namespace Go.Proofs.Ytbekjfbaelobdaa
open Go.RowKit Go.Maps

theorem info44 : (Try.prog.info? 44).map (fun i => (i.zero, i.size, i.bytes)) = some (some (.agg #[.int .i64 0, .int .i64 0, .int .i64 0]), 3, 24) := by kernel_rfl

/-- a slice of words that owns its row -/
def OwnW (w : World) (a : Option Addr) (cap n : Nat) (xs : List Value) : Prop := w.ownsRow 0 44 3 (.slice a n cap) n xs

/-- what the cells say: the k-th stamp is k + 1; the k-th word comes at ats k -/
def WayI (xs : List Value) (ats : List Int) : Prop :=
  xs.length = ats.length * 3 ∧ ∀ k, k < ats.length → xs[k * 3]? = some (.int .i64 ((k : Int) + 1)) ∧ xs[k * 3 + 1]? = some (.int .i64 (ats.getD k 0)) ∧ ∃ b, xs[k * 3 + 2]? = some (.int .i64 b)

theorem WayI.nil : WayI [] [] := ⟨rfl, fun k hk => by simp at hk⟩

theorem WayI.snoc {xs : List Value} {ats : List Int} (h : WayI xs ats) (at_ : Int) : WayI (xs ++ [.int .i64 ((ats.length : Int) + 1), .int .i64 at_, .int .i64 0]) (ats ++ [at_]) := by
  obtain ⟨h1, h2⟩ := h
  refine ⟨by simp; omega, fun k hk => ?_⟩
  simp only [List.length_append, List.length_singleton] at hk
  by_cases e : k < ats.length
  · obtain ⟨a, b, v, c⟩ := h2 k e
    have g : (ats ++ [at_]).getD k 0 = ats.getD k 0 := by rw [List.getD_eq_getElem?_getD, List.getD_eq_getElem?_getD, List.getElem?_append_left e]
    rw [g, List.getElem?_append_left (by omega), List.getElem?_append_left (by omega), List.getElem?_append_left (by omega)]
    exact ⟨a, b, v, c⟩
  · obtain rfl : k = ats.length := by omega
    rw [List.getElem?_append_right (by omega), List.getElem?_append_right (by omega), List.getElem?_append_right (by omega)]
    rw [show ats.length * 3 - xs.length = 0 by omega, show ats.length * 3 + 1 - xs.length = 1 by omega, show ats.length * 3 + 2 - xs.length = 2 by omega]
    exact ⟨rfl, by simp [List.getD], 0, rfl⟩

theorem WayI.back {xs : List Value} {ats : List Int} (h : WayI xs ats) (k : Nat) (b : Int) : WayI (xs.set (k * 3 + 2) (.int .i64 b)) ats := by
  obtain ⟨h1, h2⟩ := h
  refine ⟨by simp; omega, fun j hj => ?_⟩
  obtain ⟨x, y, v, z⟩ := h2 j hj
  rw [List.getElem?_set_ne (by omega), List.getElem?_set_ne (by omega)]
  refine ⟨x, y, ?_⟩
  by_cases e : j = k
  · subst e
    refine ⟨b, ?_⟩
    rw [List.getElem?_set_self (by omega)]
  · exact ⟨v, by rw [List.getElem?_set_ne (by omega)]; exact z⟩

namespace OwnW
variable {w w' : World} {a : Option Addr} {cap n : Nat} {xs : List Value}
theorem nil (w : World) : OwnW w none 0 0 [] := World.ownsRow_nil _ _ _ _
theorem lt (h : OwnW w a cap n xs) {g : Nat} (hg : blkOf a = some g) : g < w.heap.size := (World.ownsRow.lt h g (by rw [ownBlock_eq]; exact hg)).2
theorem chg (h : OwnW w a cap n xs) {S : List Nat} (hc : Chg S w w') (hn : ∀ g, blkOf a = some g → g ∉ S) : OwnW w' a cap n xs := by
  refine ⟨h.1, ?_⟩
  rcases h.2 with h2 | ⟨g, c, cur, he, hb, hg, r⟩
  · exact .inl h2
  · cases he
    exact .inr ⟨g, _, cur, rfl, hb, hc.blk hg (hn g rfl), r⟩
theorem at_ (h : OwnW w a cap n xs) (hn : 0 < n) : ∃ g, a = some ⟨g, 0, none⟩ ∧ (∀ j u, xs[j]? = some u → w.cell? ⟨g, j, none⟩ = some u) ∧ (∀ j, w.frozen? ⟨g, j, none⟩ = false) ∧
    ∀ j u, u.oneCell' = true → OwnW (w.setCell ⟨g, j, none⟩ u) a cap n (xs.set j u) := by
  rcases h.2 with ⟨_, h0⟩ | ⟨g, c, cur, he, hb, hg, h1, h2, h3, h4⟩
  · omega
  · cases he
    refine ⟨g, rfl, fun j u hu => ?_, fun j => by simp [World.frozen?, hg], fun j u hu => ?_⟩
    · have hj : j < xs.length := (List.getElem?_eq_some_iff.1 hu).1
      have := World.ownsRow.cellAt h j (by have := h.1; omega)
      rw [this, hu]
    · by_cases hj : j < n * 3
      · have hcl := hg
        refine ⟨by simp; exact h.1, .inr ⟨g, _, cur.setIfInBounds j u, rfl, Nat.zero_le _, ?_, h1, h2, by simp; exact h3, ?_⟩⟩
        · have := (show Blk w g cur 44 from hg).set j u
          exact this
        · rw [← h4]
          simp [List.take_set]
      · refine ⟨by simp; exact h.1, .inr ⟨g, _, cur.setIfInBounds j u, rfl, Nat.zero_le _, ?_, h1, h2, by simp; exact h3, ?_⟩⟩
        · exact (show Blk w g cur 44 from hg).set j u
        · rw [← h4]
          simp [List.take_set]
end OwnW

section
variable {ops : Array Oper} {rest : List Oper} {o : Oper} {a : Act} {Q : Exit → Act → World → Prop}
theorem wpList_appendW (w : World) (hgd : o.guard = none) (s x : Operand)
    (ho : o.op = .call { callee := .builtin .append, args := #[s, x], argTypes := #[41, 41] })
    (sa : Option Addr) (cap n : Nat) (xs : List Value) (hs : a.eval s = .slice sa n cap) (hown : OwnW w sa cap n xs)
    (g : Nat) (u v y : Int) (hx : a.eval x = .slice (some ⟨g, 0, none⟩) 1 1) (hc0 : w.cell? ⟨g, 0, none⟩ = some (.int .i64 u)) (hc1 : w.cell? ⟨g, 1, none⟩ = some (.int .i64 v)) (hc2 : w.cell? ⟨g, 2, none⟩ = some (.int .i64 y)) (hsz : n < 1000000)
    (h : ∀ a' cap' w', OwnW w' a' cap' (n + 1) (xs ++ [.int .i64 u, .int .i64 v, .int .i64 y]) → w.grownBy w' (blkOf sa) → (blkOf a' = blkOf sa ∨ blkOf a' = some w.heap.size) → wpList Try.prog ops Q rest (a.put o.dst (.slice a' (n + 1) cap')) w') : wpList Try.prog ops Q (o :: rest) a w := by
  obtain ⟨i0, hi, hz0, hz1, hz2⟩ := info_parts info44
  refine wpList_append_own_at w hgd s x 41 ho 0 44 i0 _ 3 24 Try.underlying41 hi hz0 hz1 hz2 rfl (by decide) _ n xs hs hown ⟨g, 0, none⟩ 1 1 [.int .i64 u, .int .i64 v, .int .i64 y] hx rfl ?_ (by simp [Value.oneCell']) (by unfold maxLen; omega) (by omega) (Nat.zero_le _) ?_
  · intro j u hj
    match j, hj with
    | 0, hj => simp at hj; subst hj; simpa [Addr.add] using hc0
    | 1, hj => simp at hj; subst hj; simpa [Addr.add] using hc1
    | 2, hj => simp at hj; subst hj; simpa [Addr.add] using hc2
  · intro v' w' h1 h2 _ h4
    obtain ⟨a', cap', rfl, _⟩ := ownsRow_shape h1
    exact h a' cap' w' h1 (by rw [ownBlock_eq] at h2; exact h2) (by rw [ownBlock_eq, ownBlock_eq] at h4; exact h4)
end

end Go.Proofs.Ytbekjfbaelobdaa
