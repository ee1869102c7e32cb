/- Small laws for the walks of the statements on histories: what may have turned between two worlds, blocks of cells, maps from int to string and from a node's epoch. Conditions: those that each law names. -/
import Derived.Test.YteokjobkjmibfaaGreatRows
import Derived.WalkKit
import Derived.WalkSpells
import Derived.WalkLawsBesides
import Derived.Maps.OwnSet
import Derived.Lib.Hide
import Derived.StillTailTactics
import Derived.Maps.StringElems
import Derived.DeepKeys4
namespace Go.Proofs.YteokjobkjmibfaaGreat
open Go.RowKit Go.Maps

theorem ret_int {k : IntKind} {a b : Int} (h : a = b) : Ending.returned (.int k a) = .returned (.int k b) := by rw [h]
theorem ret_bool {a b : Bool} (h : a = b) : Ending.returned (.bool a) = .returned (.bool b) := by rw [h]

/-- What may have turned between two worlds: the blocks of S, and new ones. -/
structure Chg (S : List Nat) (w w' : World) : Prop where
  os : w'.os = w.os
  tape : w'.tape = w.tape
  output : w'.output = w.output
  size : w.heap.size ≤ w'.heap.size
  block : ∀ k, k < w.heap.size → k ∉ S → w'.heap[k]? = w.heap[k]?

namespace Chg
theorem refl (S : List Nat) (w : World) : Chg S w w := ⟨rfl, rfl, rfl, Nat.le_refl _, fun _ _ _ => rfl⟩
theorem trans {S : List Nat} {a b c : World} (h : Chg S a b) (k : Chg S b c) : Chg S a c :=
  ⟨k.os.trans h.os, k.tape.trans h.tape, k.output.trans h.output, Nat.le_trans h.size k.size, fun i hi hn => (k.block i (Nat.lt_of_lt_of_le hi h.size) hn).trans (h.block i hi hn)⟩
theorem mono {S S' : List Nat} {a b : World} (h : Chg S a b) (hs : ∀ k, k ∈ S → k ∈ S' ∨ a.heap.size ≤ k) : Chg S' a b :=
  ⟨h.os, h.tape, h.output, h.size, fun i hi hn => h.block i hi (fun hm => by rcases hs i hm with h1 | h1; exact hn h1; omega)⟩
/-- Onto a step that touches blocks of S' that are in S, or new. -/
theorem step {S S' : List Nat} {a b c : World} (h : Chg S a b) (k : Chg S' b c) (hs : ∀ k, k ∈ S' → k ∈ S ∨ a.heap.size ≤ k) : Chg S a c :=
  ⟨k.os.trans h.os, k.tape.trans h.tape, k.output.trans h.output, Nat.le_trans h.size k.size, fun i hi hn =>
    (k.block i (Nat.lt_of_lt_of_le hi h.size) (fun hm => by rcases hs i hm with h1 | h1; exact hn h1; omega)).trans (h.block i hi hn)⟩
theorem drewN {S : List Nat} {a w : World} (h : Chg S a w) (n : Nat) : Chg S a (w.drewN n) := ⟨h.os, h.tape, h.output, h.size, h.block⟩
theorem drew {S : List Nat} {a w : World} (h : Chg S a w) : Chg S a w.drew := ⟨h.os, h.tape, h.output, h.size, h.block⟩
theorem alloc {S : List Nat} {a w : World} (h : Chg S a w) (o : Obj) : Chg S a (w.alloc o) :=
  ⟨h.os, h.tape, h.output, by simp; have := h.size; omega, fun k hk hn => (Below.heap_alloc _ _ _ (Nat.lt_of_lt_of_le hk h.size)).trans (h.block k hk hn)⟩
theorem setCell {S : List Nat} {a w : World} (h : Chg S a w) (p : Addr) (hp : p.block ∈ S ∨ a.heap.size ≤ p.block) (u : Value) : Chg S a (w.setCell p u) :=
  ⟨h.os, h.tape, h.output, by simp [World.setCell]; exact h.size, fun k hk hn => (Below.heap_setCell _ _ _ _ (fun e => by subst e; rcases hp with h1 | h1; exact hn h1; omega)).trans (h.block k hk hn)⟩
theorem grown {S : List Nat} {a w w' : World} {row : Option Nat} (h : Chg S a w) (hg : w.grownBy w' row) (hr : ∀ k, row = some k → k ∈ S ∨ a.heap.size ≤ k) : Chg S a w' :=
  ⟨hg.os.trans h.os, hg.tape.trans h.tape, hg.output.trans h.output, Nat.le_trans h.size hg.size, fun k hk hn =>
    (hg.block k (Nat.lt_of_lt_of_le hk h.size) (fun e => by rcases hr k e.symm with h1 | h1; exact hn h1; omega)).trans (h.block k hk hn)⟩
theorem turned {S : List Nat} {a w w' : World} {b : Nat} (h : Chg S a w) (ht : w.mapTurned w' b) (hb : b ∈ S ∨ a.heap.size ≤ b) : Chg S a w' :=
  h.grown ht.grown (fun k e => by cases e; exact hb)
theorem ofBelow {S : List Nat} {a w w' : World} (h : Chg S a w) (hb : Below w.heap.size w w') : Chg S a w' :=
  ⟨hb.os.trans h.os, hb.tape.trans h.tape, hb.output.trans h.output, Nat.le_trans h.size hb.size, fun k hk hn => (hb.block k (Nat.lt_of_lt_of_le hk h.size)).trans (h.block k hk hn)⟩
theorem below {S : List Nat} {a w : World} {B : Nat} (h : Chg S a w) (hB : B ≤ a.heap.size) (hs : ∀ k, k ∈ S → B ≤ k) : Below B a w :=
  ⟨h.os, h.tape, h.output, h.size, fun k hk => h.block k (by omega) (fun hm => by have := hs k hm; omega)⟩
theorem blk {S : List Nat} {a w : World} (h : Chg S a w) {b : Nat} {o : Obj} (hb : a.heap[b]? = some o) (hn : b ∉ S) : w.heap[b]? = some o :=
  (h.block b (lt_of_block hb) hn).trans hb
end Chg

theorem wp_still_tail {P : Program} {id : Nat} {Q : Exit → Act → World → Prop} {a : Act} {w : World} {l : List Oper} (n : Nat) (hm : P.follows .mixedOrders = true) (hB : Region.lexTailB .any l.toArray n = true)
    (h : wpStill P l.toArray w.drew (fun a' => wpList P l.toArray Q (l.drop n) a' w.drew) (l.take n) a) : (Code.region id l.toArray true).wp P Q a w :=
  wp_region_still_tail n hm hB h

/-! ### blocks of cells -/
def Blk (w : World) (b : Nat) (cs : Array Value) (t : TypeId) : Prop := w.heap[b]? = some (.cells cs t (0, 0))
namespace Blk
variable {w : World} {b : Nat} {cs : Array Value} {t : TypeId}
theorem lt (h : Blk w b cs t) : b < w.heap.size := lt_of_block h
theorem cell (h : Blk w b cs t) (i : Nat) {v : Value} (hi : cs[i]? = some v) : w.cell? ⟨b, i, none⟩ = some v := by
  unfold Blk at h; simp [World.cell?, h, hi]
theorem free (h : Blk w b cs t) (i : Nat) : w.frozen? ⟨b, i, none⟩ = false := by unfold Blk at h; simp [World.frozen?, h]
theorem chg {S : List Nat} {w' : World} (h : Blk w b cs t) (hc : Chg S w w') (hn : b ∉ S) : Blk w' b cs t := hc.blk h hn
theorem set (h : Blk w b cs t) (i : Nat) (v : Value) : Blk (w.setCell ⟨b, i, none⟩ v) b (cs.setIfInBounds i v) t := by
  have hlt := h.lt
  unfold Blk at h ⊢
  have h' : w.heap[b] = .cells cs t (0, 0) := by simpa [Array.getElem?_eq_getElem hlt] using h
  show (w.heap.modify b _)[b]? = _
  rw [Array.getElem?_eq_getElem (by simpa using hlt), Array.getElem_modify_self, h']
  rfl
theorem setOther (h : Blk w b cs t) (p : Addr) (hp : b ≠ p.block) (v : Value) : Blk (w.setCell p v) b cs t := by
  unfold Blk at h ⊢; rw [Below.heap_setCell _ _ _ _ hp]; exact h
theorem alloc (h : Blk w b cs t) (o : Obj) : Blk (w.alloc o) b cs t := by
  have := h.lt; unfold Blk at h ⊢; rw [Below.heap_alloc _ _ _ this]; exact h
theorem drewN (h : Blk w b cs t) (n : Nat) : Blk (w.drewN n) b cs t := h
theorem new (w : World) (cs : Array Value) (t : TypeId) : Blk (w.alloc (.cells cs t (0, 0))) w.heap.size cs t := by
  unfold Blk; show (w.heap.push _)[w.heap.size]? = _; rw [Array.getElem?_push_size]
theorem grown {w' : World} {row : Option Nat} (h : Blk w b cs t) (hg : w.grownBy w' row) (hn : some b ≠ row) : Blk w' b cs t := by
  have := h.lt; unfold Blk at h ⊢; rw [hg.block b this hn]; exact h
end Blk

/-! ### maps from int to string -/
theorem law3 : Keyed Tryz.prog 3 := int_keyed Tryz.underlying3
def wf64 (k : Int) : Prop := (Lit.int .i64 k).wf = true
def wfu64 (k : Int) : Prop := (Lit.int .u64 k).wf = true
theorem zero9 (w : World) : (zeroValue 9).run Tryz.prog w = .ok (.string ⟨#[]⟩) w := by kernel_rfl
theorem zero27 (w : World) : (zeroValue 64).run Tryz.prog w = .ok (.int .u64 0) w := by kernel_rfl

abbrev Str := ByteArray
/-- what an array is: of each block that was written, its bytes -/
abbrev Arr := Int → Option Str

theorem str_ext {a b : ByteArray} (h : a.data.toList = b.data.toList) : a = b := by
  obtain ⟨a⟩ := a; obtain ⟨b⟩ := b
  congr 1
  exact Array.toList_inj.1 h

/-- block b is a map of at most n entries that reads as f -/
def SMap (w : World) (b n : Nat) (f : Arr) : Prop :=
  ∃ D : DataW Unit, w.ownsMap Tryz.prog 3 (plainElem Tryz.prog 9) b n D ∧
    ∀ k, Maps.has D (.int .i64 k) = (f k).isSome ∧ ∀ c, f k = some c → D.atKey (.int .i64 k) (.lit (.string [])) = .lit (.string c.data.toList)

def upd (f : Arr) (k : Int) (v : Str) : Arr := fun x => if x = k then some v else f x

theorem SMap.lt {w : World} {b n : Nat} {f : Arr} (h : SMap w b n f) : b < w.heap.size := by
  obtain ⟨D, h, _⟩ := h; exact h.lt
theorem SMap.mono {w : World} {b n n' : Nat} {f : Arr} (h : SMap w b n f) (hn : n ≤ n') : SMap w b n' f := by
  obtain ⟨D, h, h'⟩ := h; exact ⟨D, h.mono hn, h'⟩
theorem SMap.setCell {w : World} {b n : Nat} {f : Arr} (h : SMap w b n f) (p : Addr) (hne : b ≠ p.block) (u : Value) : SMap (w.setCell p u) b n f := by
  obtain ⟨D, h, h'⟩ := h; exact ⟨D, h.setCell hne u, h'⟩
theorem SMap.alloc {w : World} {b n : Nat} {f : Arr} (h : SMap w b n f) (o : Obj) : SMap (w.alloc o) b n f := by
  obtain ⟨D, h, h'⟩ := h; exact ⟨D, h.alloc o, h'⟩
theorem SMap.drewN {w : World} {b n : Nat} {f : Arr} (h : SMap w b n f) (m : Nat) : SMap (w.drewN m) b n f := h
theorem ownsMap_chg {P : Program} {k : TypeId} {R : Value → Option (DataW Unit × List MemPlace)} {D : DataW Unit} {w w' : World} {b n : Nat} (h : w.ownsMap P k R b n D) {S : List Nat} (hc : Chg S w w') (hn : b ∉ S) : w'.ownsMap P k R b n D := by
  have hl := h.lt
  unfold World.ownsMap at h ⊢
  rw [hc.block b hl hn]
  exact h
theorem SMap.chg {w w' : World} {b n : Nat} {f : Arr} (h : SMap w b n f) {S : List Nat} (hc : Chg S w w') (hn : b ∉ S) : SMap w' b n f := by
  obtain ⟨D, h, h'⟩ := h
  exact ⟨D, ownsMap_chg h hc hn, h'⟩
theorem SMap.made (w : World) : SMap (w.alloc (.map #[] 0)) w.heap.size 0 (fun _ => none) :=
  ⟨.map [], World.ownsMap_made _ _ _ _, fun k => ⟨rfl, fun c h => by cases h⟩⟩

theorem isKey (k : Int) : WideAt.IsKeyLit (.int .i64 k) := by first | trivial | exact True.intro | simp [WideAt.IsKeyLit]

theorem SMap.put_fact {D : DataW Unit} {f : Arr} (hm : Maps.IsMap D) (h : ∀ k, Maps.has D (.int .i64 k) = (f k).isSome ∧ ∀ c, f k = some c → D.atKey (.int .i64 k) (.lit (.string [])) = .lit (.string c.data.toList)) (x : Int) (v : Str) :
    ∀ k, Maps.has (D.put (.int .i64 x) (.lit (.string v.data.toList))) (.int .i64 k) = (upd f x v k).isSome ∧ ∀ c, upd f x v k = some c → (D.put (.int .i64 x) (.lit (.string v.data.toList))).atKey (.int .i64 k) (.lit (.string [])) = .lit (.string c.data.toList) := by
  intro k
  unfold upd
  by_cases e : k = x
  · subst e
    rw [Maps.has_put_same hm (isKey k), if_pos rfl]
    refine ⟨rfl, fun c hc => ?_⟩
    cases hc
    exact Maps.atKey_put_same hm (isKey k) _ _
  · have hne : (Lit.int .i64 k) ≠ .int .i64 x := by intro h; exact e (by cases h; rfl)
    rw [Maps.has_put_other hne, if_neg e]
    refine ⟨(h k).1, fun c hc => ?_⟩
    rw [Maps.atKey_put_other hne]
    exact (h k).2 c hc

/-! ### maps from a node's epoch: who is there -/
theorem law52 : Keyed Tryz.prog 78 := Keyed.of_law (deep_law_laid (P := Tryz.prog) (by kernel_rfl) (m := 5) (by omega) (Nat.le_of_ble_eq_true (by kernel_rfl)) (by kernel_rfl) (by kernel_rfl))
def whoKey (n e : Int) : Lit := .string (keyBytes [.int .i64 n, .int .u64 e])
theorem keyOf_who {n e : Int} (hn : wf64 n) (he : wfu64 e) : keyOf Tryz.prog 78 (.agg #[.int .i64 n, .int .u64 e]) = some (whoKey n e) := by
  obtain ⟨m, hs⟩ : ∃ m, Tryz.prog.types.size = m + 1 := ⟨255, by kernel_rfl⟩
  have hc : Tryz.prog.cellsOf 78 = 2 := by kernel_rfl
  have hc3 : Tryz.prog.cellsOf 3 = 1 := by kernel_rfl
  have hc27 : Tryz.prog.cellsOf 64 = 1 := by kernel_rfl
  have hkt : Tryz.prog.keyType 78 = true := by kernel_rfl
  unfold wf64 at hn
  unfold wfu64 at he
  unfold keyOf
  simp only [Tryz.underlying78]
  rw [if_pos (by simp [hkt, Value.formed, Tryz.underlying78, hc]), hs]
  unfold Program.keyLits
  simp only [Tryz.underlying78, Value.cells]
  rw [if_pos (by rw [hc]; exact ⟨rfl, by simp⟩)]
  simp [List.mapM_cons, hc3, hc27, Program.keyLits, Tryz.underlying3, Tryz.underlying64, hn, he, whoKey]

theorem whoKey_inj {n e n' e' : Int} (hn : wf64 n) (he : wfu64 e) (hn' : wf64 n') (he' : wfu64 e') (h : whoKey n e = whoKey n' e') : n = n' ∧ e = e' := by
  unfold whoKey at h
  simp only [Lit.string.injEq] at h
  have := keyBytes_inj (l := [.int .i64 n, .int .u64 e]) (l' := [.int .i64 n', .int .u64 e']) ⟨rfl, rfl, trivial⟩ (by
    intro a ha
    simp only [List.mem_cons, List.not_mem_nil, or_false] at ha
    rcases ha with rfl | rfl
    · exact hn
    · exact he) (by
    intro a ha
    simp only [List.mem_cons, List.not_mem_nil, or_false] at ha
    rcases ha with rfl | rfl
    · exact hn'
    · exact he') h
  simpa using this

theorem isKeyW (n e : Int) : WideAt.IsKeyLit (whoKey n e) := by first | trivial | exact True.intro | simp [WideAt.IsKeyLit, whoKey]

/-- a set of nodes' epochs -/
abbrev Gns := Int → Int → Bool
def gput (g : Gns) (n e : Int) : Gns := fun n' e' => if n' = n ∧ e' = e then true else g n' e'

/-- block b is a map of at most n entries; who is there: g -/
def WMap (w : World) (b m : Nat) (g : Gns) : Prop :=
  ∃ D : DataW Unit, w.ownsMap Tryz.prog 78 (plainElem Tryz.prog 64) b m D ∧ ∀ n e, wf64 n → wfu64 e → Maps.has D (whoKey n e) = g n e

theorem WMap.lt {w : World} {b n : Nat} {f : Gns} (h : WMap w b n f) : b < w.heap.size := by
  obtain ⟨D, h, _⟩ := h; exact h.lt
theorem WMap.mono {w : World} {b n n' : Nat} {f : Gns} (h : WMap w b n f) (hn : n ≤ n') : WMap w b n' f := by
  obtain ⟨D, h, h'⟩ := h; exact ⟨D, h.mono hn, h'⟩
theorem WMap.alloc {w : World} {b n : Nat} {f : Gns} (h : WMap w b n f) (o : Obj) : WMap (w.alloc o) b n f := by
  obtain ⟨D, h, h'⟩ := h; exact ⟨D, h.alloc o, h'⟩
theorem WMap.drewN {w : World} {b n : Nat} {f : Gns} (h : WMap w b n f) (m : Nat) : WMap (w.drewN m) b n f := h
theorem WMap.chg {w w' : World} {b n : Nat} {f : Gns} (h : WMap w b n f) {S : List Nat} (hc : Chg S w w') (hn : b ∉ S) : WMap w' b n f := by
  obtain ⟨D, h, h'⟩ := h
  exact ⟨D, ownsMap_chg h hc hn, h'⟩
theorem WMap.made (w : World) : WMap (w.alloc (.map #[] 0)) w.heap.size 0 (fun _ _ => false) :=
  ⟨.map [], World.ownsMap_made _ _ _ _, fun _ _ _ _ => rfl⟩

section
variable {ops : Array Oper} {rest : List Oper} {o : Oper} {a : Act} {Q : Exit → Act → World → Prop}

theorem SMap.read {D : DataW Unit} {f : Arr} (hf : ∀ k, Maps.has D (.int .i64 k) = (f k).isSome ∧ ∀ c, f k = some c → D.atKey (.int .i64 k) (.lit (.string [])) = .lit (.string c.data.toList)) (k : Int)
    {v : Value} {ps : List MemPlace} (hv : plainElem Tryz.prog 9 v = some (D.atKey (.int .i64 k) (.lit (.string [])), ps)) : v = .string ((f k).getD ⟨#[]⟩) := by
  obtain ⟨s, rfl, hz, _⟩ := plainElem_string_inv Tryz.underlying9 hv
  have h1 := hf k
  cases hfk : f k with
  | none =>
    rw [hfk] at h1
    have h2 : Maps.has D (.int .i64 k) = false := h1.1
    rw [Maps.atKey_of_not_has h2] at hz
    simp only [Prod.mk.injEq, DataW.lit.injEq, Lit.string.injEq] at hz
    have e : s = ⟨#[]⟩ := str_ext hz.1.symm
    rw [e]; rfl
  | some c =>
    rw [hfk] at h1
    rw [h1.2 c rfl] at hz
    simp only [Prod.mk.injEq, DataW.lit.injEq, Lit.string.injEq] at hz
    have e : s = c := str_ext hz.1.symm
    rw [e]; rfl

theorem wpList_lookup_S (w : World) (hg : o.guard = none) (m x : Operand) (hop : o.op = Op.lookup 75 m x true)
    (b n : Nat) (f : Arr) (hm : a.eval m = .map (some b)) (hown : SMap w b n f) (k : Int) (hx : a.eval x = .int .i64 k) (hk : wf64 k)
    (hK : wpList Tryz.prog ops Q rest (a.put o.dst (.tuple #[.string ((f k).getD ⟨#[]⟩), .bool (f k).isSome])) w) :
    wpList Tryz.prog ops Q (o :: rest) a w := by
  obtain ⟨D, hD, hf⟩ := hown
  refine wpList_lookup_own_ok w hg m x 75 hop 3 9 law3 Tryz.underlying75 (plainElem Tryz.prog 9) (zero9 _) (.lit (.string [])) [] (plainElem_string Tryz.underlying9 (by decide)) b n D hm hD _ _ hx (keyOf_int_mk Tryz.underlying3 hk) ?_
  intro v ps hv
  rw [SMap.read hf k hv, (hf k).1]
  exact hK

theorem wpList_store_S (w : World) (hg : o.guard = none) (m x v : Operand) (hop : o.op = Op.mapUpdate 75 m x v)
    (b n : Nat) (f : Arr) (hm : a.eval m = .map (some b)) (hown : SMap w b n f) (hn : n < maxLen) (k : Int) (u : Str) (hx : a.eval x = .int .i64 k) (hv : a.eval v = .string u) (hk : wf64 k) (hu : u.size ≤ maxLen)
    (hK : ∀ w', SMap w' b (n + 1) (upd f k u) → w.mapTurned w' b → wpList Tryz.prog ops Q rest (a.put o.dst undef) w') :
    wpList Tryz.prog ops Q (o :: rest) a w := by
  obtain ⟨D, hD, hf⟩ := hown
  refine wpList_mapUpdate_in w hg m x v 75 hop 3 9 law3 Tryz.underlying75 _ b n D hm hD hn _ _ _ hx hv (keyOf_int_mk Tryz.underlying3 hk) _ [] (plainElem_string Tryz.underlying9 hu) ?_
  intro w1 h1 h2
  exact hK w1 ⟨_, h1, SMap.put_fact hD.isMap hf k u⟩ h2

theorem wpList_lookup_W (w : World) (hg : o.guard = none) (m x : Operand) (hop : o.op = Op.lookup 76 m x true)
    (b n : Nat) (f : Gns) (hm : a.eval m = .map (some b)) (hown : WMap w b n f) (k e : Int) (hx : a.eval x = .agg #[.int .i64 k, .int .u64 e]) (hk : wf64 k) (he : wfu64 e)
    (hK : ∀ c : Int, wpList Tryz.prog ops Q rest (a.put o.dst (.tuple #[.int .u64 c, .bool (f k e)])) w) :
    wpList Tryz.prog ops Q (o :: rest) a w := by
  obtain ⟨D, hD, hf⟩ := hown
  refine wpList_lookup_own_ok_int w hg m x 76 hop 78 64 .u64 law52 Tryz.underlying76 Tryz.underlying64 (zero27 _) b n D hm hD _ _ hx (keyOf_who hk he) ?_
  intro c _ _
  rw [hf k e hk he]
  exact hK c

theorem wpList_store_W (w : World) (hg : o.guard = none) (m x v : Operand) (hop : o.op = Op.mapUpdate 76 m x v)
    (b n : Nat) (f : Gns) (hm : a.eval m = .map (some b)) (hown : WMap w b n f) (hn : n < maxLen) (k e u : Int) (hx : a.eval x = .agg #[.int .i64 k, .int .u64 e]) (hv : a.eval v = .int .u64 u) (hk : wf64 k) (he : wfu64 e) (hu : wfu64 u)
    (hK : ∀ w', WMap w' b (n + 1) (gput f k e) → w.mapTurned w' b → wpList Tryz.prog ops Q rest (a.put o.dst undef) w') :
    wpList Tryz.prog ops Q (o :: rest) a w := by
  obtain ⟨D, hD, hf⟩ := hown
  refine wpList_mapUpdate_in w hg m x v 76 hop 78 64 law52 Tryz.underlying76 _ b n D hm hD hn _ _ _ hx hv (keyOf_who hk he) _ [] (plainElem_int Tryz.underlying64 hu) ?_
  intro w1 h1 h2
  refine hK w1 ⟨_, h1, fun n' e' hn' he' => ?_⟩ h2
  unfold gput
  by_cases heq : n' = k ∧ e' = e
  · obtain ⟨rfl, rfl⟩ := heq
    rw [if_pos ⟨rfl, rfl⟩, Maps.has_put_same hD.isMap (isKeyW _ _)]
  · rw [if_neg heq, Maps.has_put_other (fun h => heq (whoKey_inj hn' he' hk he h)), hf n' e' hn' he']
end

end Go.Proofs.YteokjobkjmibfaaGreat
