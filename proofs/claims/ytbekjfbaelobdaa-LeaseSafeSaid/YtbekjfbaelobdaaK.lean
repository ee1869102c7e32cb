/- Small laws for the walks of the lease statements: what may have turned between two worlds, blocks of cells, maps from int to int. Conditions: those that each law names. -/
import Derived.Test.YtbekjfbaelobdaaRows
import Derived.WalkKit
import Derived.WalkSpells
import Derived.WalkLawsBesides
import Derived.Maps.OwnSet
import Derived.Lib.Hide
import Derived.StillTailTactics
namespace Go.Proofs.Ytbekjfbaelobdaa
open Go.RowKit Go.Maps

theorem ret_int {k : IntKind} {a b : Int} (h : a = b) : Ending.returned (.int k a) = .returned (.int k b) := by rw [h]
theorem ret_bool {a b : Bool} (h : a = b) : Ending.returned (.bool a) = .returned (.bool b) := by rw [h]

/-- What may have turned between two worlds: the blocks of S, and new ones. -/
structure Chg (S : List Nat) (w w' : World) : Prop where
  os : w'.os = w.os
  tape : w'.tape = w.tape
  output : w'.output = w.output
  size : w.heap.size ≤ w'.heap.size
  block : ∀ k, k < w.heap.size → k ∉ S → w'.heap[k]? = w.heap[k]?

namespace Chg
theorem refl (S : List Nat) (w : World) : Chg S w w := ⟨rfl, rfl, rfl, Nat.le_refl _, fun _ _ _ => rfl⟩
theorem trans {S : List Nat} {a b c : World} (h : Chg S a b) (k : Chg S b c) : Chg S a c :=
  ⟨k.os.trans h.os, k.tape.trans h.tape, k.output.trans h.output, Nat.le_trans h.size k.size, fun i hi hn => (k.block i (Nat.lt_of_lt_of_le hi h.size) hn).trans (h.block i hi hn)⟩
theorem mono {S S' : List Nat} {a b : World} (h : Chg S a b) (hs : ∀ k, k ∈ S → k ∈ S' ∨ a.heap.size ≤ k) : Chg S' a b :=
  ⟨h.os, h.tape, h.output, h.size, fun i hi hn => h.block i hi (fun hm => by rcases hs i hm with h1 | h1; exact hn h1; omega)⟩
/-- Onto a step that touches blocks of S' that are in S, or new. -/
theorem step {S S' : List Nat} {a b c : World} (h : Chg S a b) (k : Chg S' b c) (hs : ∀ k, k ∈ S' → k ∈ S ∨ a.heap.size ≤ k) : Chg S a c :=
  ⟨k.os.trans h.os, k.tape.trans h.tape, k.output.trans h.output, Nat.le_trans h.size k.size, fun i hi hn =>
    (k.block i (Nat.lt_of_lt_of_le hi h.size) (fun hm => by rcases hs i hm with h1 | h1; exact hn h1; omega)).trans (h.block i hi hn)⟩
theorem drewN {S : List Nat} {a w : World} (h : Chg S a w) (n : Nat) : Chg S a (w.drewN n) := ⟨h.os, h.tape, h.output, h.size, h.block⟩
theorem drew {S : List Nat} {a w : World} (h : Chg S a w) : Chg S a w.drew := ⟨h.os, h.tape, h.output, h.size, h.block⟩
theorem alloc {S : List Nat} {a w : World} (h : Chg S a w) (o : Obj) : Chg S a (w.alloc o) :=
  ⟨h.os, h.tape, h.output, by simp; have := h.size; omega, fun k hk hn => (Below.heap_alloc _ _ _ (Nat.lt_of_lt_of_le hk h.size)).trans (h.block k hk hn)⟩
theorem setCell {S : List Nat} {a w : World} (h : Chg S a w) (p : Addr) (hp : p.block ∈ S ∨ a.heap.size ≤ p.block) (u : Value) : Chg S a (w.setCell p u) :=
  ⟨h.os, h.tape, h.output, by simp [World.setCell]; exact h.size, fun k hk hn => (Below.heap_setCell _ _ _ _ (fun e => by subst e; rcases hp with h1 | h1; exact hn h1; omega)).trans (h.block k hk hn)⟩
theorem grown {S : List Nat} {a w w' : World} {row : Option Nat} (h : Chg S a w) (hg : w.grownBy w' row) (hr : ∀ k, row = some k → k ∈ S ∨ a.heap.size ≤ k) : Chg S a w' :=
  ⟨hg.os.trans h.os, hg.tape.trans h.tape, hg.output.trans h.output, Nat.le_trans h.size hg.size, fun k hk hn =>
    (hg.block k (Nat.lt_of_lt_of_le hk h.size) (fun e => by rcases hr k e.symm with h1 | h1; exact hn h1; omega)).trans (h.block k hk hn)⟩
theorem turned {S : List Nat} {a w w' : World} {b : Nat} (h : Chg S a w) (ht : w.mapTurned w' b) (hb : b ∈ S ∨ a.heap.size ≤ b) : Chg S a w' :=
  h.grown ht.grown (fun k e => by cases e; exact hb)
theorem ofBelow {S : List Nat} {a w w' : World} (h : Chg S a w) (hb : Below w.heap.size w w') : Chg S a w' :=
  ⟨hb.os.trans h.os, hb.tape.trans h.tape, hb.output.trans h.output, Nat.le_trans h.size hb.size, fun k hk hn => (hb.block k (Nat.lt_of_lt_of_le hk h.size)).trans (h.block k hk hn)⟩
theorem below {S : List Nat} {a w : World} {B : Nat} (h : Chg S a w) (hB : B ≤ a.heap.size) (hs : ∀ k, k ∈ S → B ≤ k) : Below B a w :=
  ⟨h.os, h.tape, h.output, h.size, fun k hk => h.block k (by omega) (fun hm => by have := hs k hm; omega)⟩
theorem blk {S : List Nat} {a w : World} (h : Chg S a w) {b : Nat} {o : Obj} (hb : a.heap[b]? = some o) (hn : b ∉ S) : w.heap[b]? = some o :=
  (h.block b (lt_of_block hb) hn).trans hb
end Chg

theorem wp_still_tail {P : Program} {id : Nat} {Q : Exit → Act → World → Prop} {a : Act} {w : World} {l : List Oper} (n : Nat) (hm : P.follows .mixedOrders = true) (hB : Region.lexTailB .any l.toArray n = true)
    (h : wpStill P l.toArray w.drew (fun a' => wpList P l.toArray Q (l.drop n) a' w.drew) (l.take n) a) : (Code.region id l.toArray true).wp P Q a w :=
  wp_region_still_tail n hm hB h

/-! ### blocks of cells -/
def Blk (w : World) (b : Nat) (cs : Array Value) (t : TypeId) : Prop := w.heap[b]? = some (.cells cs t (0, 0))
namespace Blk
variable {w : World} {b : Nat} {cs : Array Value} {t : TypeId}
theorem lt (h : Blk w b cs t) : b < w.heap.size := lt_of_block h
theorem cell (h : Blk w b cs t) (i : Nat) {v : Value} (hi : cs[i]? = some v) : w.cell? ⟨b, i, none⟩ = some v := by
  unfold Blk at h; simp [World.cell?, h, hi]
theorem free (h : Blk w b cs t) (i : Nat) : w.frozen? ⟨b, i, none⟩ = false := by unfold Blk at h; simp [World.frozen?, h]
theorem chg {S : List Nat} {w' : World} (h : Blk w b cs t) (hc : Chg S w w') (hn : b ∉ S) : Blk w' b cs t := hc.blk h hn
theorem set (h : Blk w b cs t) (i : Nat) (v : Value) : Blk (w.setCell ⟨b, i, none⟩ v) b (cs.setIfInBounds i v) t := by
  have hlt := h.lt
  unfold Blk at h ⊢
  have h' : w.heap[b] = .cells cs t (0, 0) := by simpa [Array.getElem?_eq_getElem hlt] using h
  show (w.heap.modify b _)[b]? = _
  rw [Array.getElem?_eq_getElem (by simpa using hlt), Array.getElem_modify_self, h']
  rfl
theorem setOther (h : Blk w b cs t) (p : Addr) (hp : b ≠ p.block) (v : Value) : Blk (w.setCell p v) b cs t := by
  unfold Blk at h ⊢; rw [Below.heap_setCell _ _ _ _ hp]; exact h
theorem alloc (h : Blk w b cs t) (o : Obj) : Blk (w.alloc o) b cs t := by
  have := h.lt; unfold Blk at h ⊢; rw [Below.heap_alloc _ _ _ this]; exact h
theorem drewN (h : Blk w b cs t) (n : Nat) : Blk (w.drewN n) b cs t := h
theorem new (w : World) (cs : Array Value) (t : TypeId) : Blk (w.alloc (.cells cs t (0, 0))) w.heap.size cs t := by
  unfold Blk; show (w.heap.push _)[w.heap.size]? = _; rw [Array.getElem?_push_size]
theorem grown {w' : World} {row : Option Nat} (h : Blk w b cs t) (hg : w.grownBy w' row) (hn : some b ≠ row) : Blk w' b cs t := by
  have := h.lt; unfold Blk at h ⊢; rw [hg.block b this hn]; exact h
end Blk

/-! ### maps from int to int -/
theorem law3 : Keyed Try.prog 3 := int_keyed Try.underlying3
theorem zero3 (w : World) : (zeroValue 3).run Try.prog w = .ok (.int .i64 0) w := by kernel_rfl

def wf64 (k : Int) : Prop := (Lit.int .i64 k).wf = true

/-- block b is a map of at most n entries that reads as f -/
def IMap (w : World) (b n : Nat) (f : Int → Option Int) : Prop :=
  ∃ D : DataW Unit, w.ownsMap Try.prog 3 (plainElem Try.prog 3) b n D ∧
    ∀ k, Maps.has D (.int .i64 k) = (f k).isSome ∧ ∀ c, f k = some c → D.atKey (.int .i64 k) (.lit (.int .i64 0)) = .lit (.int .i64 c)

def upd (f : Int → Option Int) (k v : Int) : Int → Option Int := fun x => if x = k then some v else f x
def del (f : Int → Option Int) (k : Int) : Int → Option Int := fun x => if x = k then none else f x

theorem IMap.lt {w : World} {b n : Nat} {f : Int → Option Int} (h : IMap w b n f) : b < w.heap.size := by
  obtain ⟨D, h, _⟩ := h; exact h.lt
theorem IMap.kept {w w' : World} {b n : Nat} {f : Int → Option Int} (h : IMap w b n f) {row : Option Nat} (hg : w.grownBy w' row) (hne : some b ≠ row) : IMap w' b n f := by
  obtain ⟨D, h, h'⟩ := h; exact ⟨D, h.kept hg hne, h'⟩
theorem IMap.mono {w : World} {b n n' : Nat} {f : Int → Option Int} (h : IMap w b n f) (hn : n ≤ n') : IMap w b n' f := by
  obtain ⟨D, h, h'⟩ := h; exact ⟨D, h.mono hn, h'⟩
theorem IMap.setCell {w : World} {b n : Nat} {f : Int → Option Int} (h : IMap w b n f) (p : Addr) (hne : b ≠ p.block) (u : Value) : IMap (w.setCell p u) b n f := by
  obtain ⟨D, h, h'⟩ := h; exact ⟨D, h.setCell hne u, h'⟩
theorem IMap.alloc {w : World} {b n : Nat} {f : Int → Option Int} (h : IMap w b n f) (o : Obj) : IMap (w.alloc o) b n f := by
  obtain ⟨D, h, h'⟩ := h; exact ⟨D, h.alloc o, h'⟩
theorem IMap.drewN {w : World} {b n : Nat} {f : Int → Option Int} (h : IMap w b n f) (m : Nat) : IMap (w.drewN m) b n f := h
theorem IMap.chg {w w' : World} {b n : Nat} {f : Int → Option Int} (h : IMap w b n f) {S : List Nat} (hc : Chg S w w') (hn : b ∉ S) : IMap w' b n f := by
  obtain ⟨D, h, h'⟩ := h
  refine ⟨D, ?_, h'⟩
  have hl := h.lt
  unfold World.ownsMap at h ⊢
  rw [hc.block b hl hn]
  exact h
theorem IMap.made (w : World) : IMap (w.alloc (.map #[] 0)) w.heap.size 0 (fun _ => none) :=
  ⟨.map [], World.ownsMap_made _ _ _ _, fun k => ⟨rfl, fun c h => by cases h⟩⟩


theorem isKey (k : Int) : WideAt.IsKeyLit (.int .i64 k) := by first | trivial | exact True.intro | simp [WideAt.IsKeyLit]

theorem IMap.put_fact {D : DataW Unit} {f : Int → Option Int} (hm : Maps.IsMap D) (h : ∀ k, Maps.has D (.int .i64 k) = (f k).isSome ∧ ∀ c, f k = some c → D.atKey (.int .i64 k) (.lit (.int .i64 0)) = .lit (.int .i64 c)) (x v : Int) :
    ∀ k, Maps.has (D.put (.int .i64 x) (.lit (.int .i64 v))) (.int .i64 k) = (upd f x v k).isSome ∧ ∀ c, upd f x v k = some c → (D.put (.int .i64 x) (.lit (.int .i64 v))).atKey (.int .i64 k) (.lit (.int .i64 0)) = .lit (.int .i64 c) := by
  intro k
  unfold upd
  by_cases e : k = x
  · subst e
    rw [Maps.has_put_same hm (isKey k), if_pos rfl]
    refine ⟨rfl, fun c hc => ?_⟩
    cases hc
    exact Maps.atKey_put_same hm (isKey k) _ _
  · have hne : (Lit.int .i64 k) ≠ .int .i64 x := by intro h; exact e (by cases h; rfl)
    rw [Maps.has_put_other hne, if_neg e]
    refine ⟨(h k).1, fun c hc => ?_⟩
    rw [Maps.atKey_put_other hne]
    exact (h k).2 c hc

theorem IMap.del_fact {D : DataW Unit} {f : Int → Option Int} (h : ∀ k, Maps.has D (.int .i64 k) = (f k).isSome ∧ ∀ c, f k = some c → D.atKey (.int .i64 k) (.lit (.int .i64 0)) = .lit (.int .i64 c)) (x : Int) :
    ∀ k, Maps.has (D.del (.int .i64 x)) (.int .i64 k) = (del f x k).isSome ∧ ∀ c, del f x k = some c → (D.del (.int .i64 x)).atKey (.int .i64 k) (.lit (.int .i64 0)) = .lit (.int .i64 c) := by
  intro k
  unfold del
  by_cases e : k = x
  · subst e
    rw [Maps.has_del_same, if_pos rfl]
    exact ⟨rfl, fun c hc => by cases hc⟩
  · have hne : (Lit.int .i64 k) ≠ .int .i64 x := by intro h; exact e (by cases h; rfl)
    rw [Maps.has_del_other hne, if_neg e]
    refine ⟨(h k).1, fun c hc => ?_⟩
    rw [Maps.atKey_del_other hne]
    exact (h k).2 c hc

section
variable {ops : Array Oper} {rest : List Oper} {o : Oper} {a : Act} {Q : Exit → Act → World → Prop}

theorem wpList_lookup_I (w : World) (hg : o.guard = none) (m x : Operand) (hop : o.op = Op.lookup 46 m x true)
    (b n : Nat) (f : Int → Option Int) (hm : a.eval m = .map (some b)) (hown : IMap w b n f) (k : Int) (hx : a.eval x = .int .i64 k) (hk : wf64 k)
    (hK : wpList Try.prog ops Q rest (a.put o.dst (.tuple #[.int .i64 ((f k).getD 0), .bool (f k).isSome])) w) :
    wpList Try.prog ops Q (o :: rest) a w := by
  obtain ⟨D, hD, hf⟩ := hown
  refine wpList_lookup_own_ok_int w hg m x 46 hop 3 3 .i64 law3 Try.underlying46 Try.underlying3 (zero3 _) b n D hm hD _ _ hx (keyOf_int_mk Try.underlying3 hk) ?_
  intro c hat _
  have h1 := hf k
  rw [h1.1]
  cases hfk : f k with
  | none =>
    rw [hfk] at h1 hK
    have : Maps.has D (.int .i64 k) = false := h1.1
    rw [Maps.atKey_of_not_has this] at hat
    cases hat
    exact hK
  | some v =>
    rw [hfk] at h1 hK
    have := h1.2 v rfl
    rw [this] at hat
    cases hat
    exact hK

theorem wpList_store_I (w : World) (hg : o.guard = none) (m x v : Operand) (hop : o.op = Op.mapUpdate 46 m x v)
    (b n : Nat) (f : Int → Option Int) (hm : a.eval m = .map (some b)) (hown : IMap w b n f) (hn : n < maxLen) (k u : Int) (hx : a.eval x = .int .i64 k) (hv : a.eval v = .int .i64 u) (hk : wf64 k) (hu : wf64 u)
    (hK : ∀ w', IMap w' b (n + 1) (upd f k u) → w.mapTurned w' b → wpList Try.prog ops Q rest (a.put o.dst undef) w') :
    wpList Try.prog ops Q (o :: rest) a w := by
  obtain ⟨D, hD, hf⟩ := hown
  refine wpList_mapUpdate_in w hg m x v 46 hop 3 3 law3 Try.underlying46 _ b n D hm hD hn _ _ _ hx hv (keyOf_int_mk Try.underlying3 hk) _ [] (plainElem_int Try.underlying3 hu) ?_
  intro w1 h1 h2
  exact hK w1 ⟨_, h1, IMap.put_fact hD.isMap hf k u⟩ h2

theorem wpList_delete_I (w : World) (hg : o.guard = none) (m x : Operand) (hop : o.op = Op.call { callee := Callee.builtin Builtin.delete, args := #[m, x], argTypes := #[46, 3] })
    (b n : Nat) (f : Int → Option Int) (hm : a.eval m = .map (some b)) (hown : IMap w b n f) (k : Int) (hx : a.eval x = .int .i64 k) (hk : wf64 k)
    (hK : ∀ w', IMap w' b n (del f k) → w.mapTurned w' b → wpList Try.prog ops Q rest (a.put o.dst (.tuple #[])) w') :
    wpList Try.prog ops Q (o :: rest) a w := by
  obtain ⟨D, hD, hf⟩ := hown
  refine wpList_delete_own w hg m x 46 3 hop 3 law3 Try.underlying46 _ b n D hm hD _ _ hx (keyOf_int_mk Try.underlying3 hk) ?_
  intro w1 h1 h2
  exact hK w1 ⟨_, h1, IMap.del_fact hf k⟩ h2
end

end Go.Proofs.Ytbekjfbaelobdaa
