/- The function Cuts of the package hist: the cuts that each Gone may have. Condition: the events can be read, at most 400 of them. -/
import Derived.Test.YteokjobkjmibfaaGreatG
namespace Go.Proofs.YteokjobkjmibfaaGreat
open Go.RowKit Go.Maps

/-! ### the plain law -/
def lo (L : List Ev) (k : Nat) : Int := (bnd (L.getD k default).node (L.getD k default).epoch (L.take k)).1
def hi (L : List Ev) (k : Nat) : Int := max (bnd (L.getD k default).node (L.getD k default).epoch (L.take k)).1 (bnd (L.getD k default).node (L.getD k default).epoch (L.take k)).2

def wstep (m lo hi : Int) : Option Int := if 3000 ≤ hi - lo ∨ 3000 < m * (hi - lo + 1) then none else some (m * (hi - lo + 1))
def ways (L : List Ev) : Nat → Option Int
  | 0 => some 1
  | k + 1 => (ways L k).bind fun m => if (L.getD k default).kind = 3 then wstep m (lo L k) (hi L k) else some m

def rng (lo : Int) (n : Nat) : List Int := (List.range n).map fun (i : Nat) => lo + (i : Int)
def chs (L : List Ev) : Nat → List (List Int)
  | 0 => []
  | k + 1 => chs L k ++ if (L.getD k default).kind = 3 then [rng (lo L k) (hi L k - lo L k + 1).toNat] else []

def Ev.bad (e : Ev) : Bool := decide (e.kind < 1) || decide (4 < e.kind)
def cutsErr (L : List Ev) : Int := if 200 < L.length then 2 else if ways L L.length = none then 2 else if L.any Ev.bad then 1 else 0

theorem bnd_range {n ep : Int} {L : List Ev} (h : ∀ e ∈ L, e.ok) : 0 ≤ (bnd n ep L).1 ∧ (bnd n ep L).1 ≤ 18446744073709551615 ∧ 0 ≤ (bnd n ep L).2 ∧ (bnd n ep L).2 ≤ 18446744073709551615 := by
  unfold bnd
  have : ∀ (L : List Ev) (p : Int × Int), (∀ e ∈ L, e.ok) → (0 ≤ p.1 ∧ p.1 ≤ 18446744073709551615 ∧ 0 ≤ p.2 ∧ p.2 ≤ 18446744073709551615) →
      0 ≤ (L.foldl (bstep n ep) p).1 ∧ (L.foldl (bstep n ep) p).1 ≤ 18446744073709551615 ∧ 0 ≤ (L.foldl (bstep n ep) p).2 ∧ (L.foldl (bstep n ep) p).2 ≤ 18446744073709551615 := by
    intro L
    induction L with
    | nil => intro p _ h; exact h
    | cons e r ih => intro p he hp; exact ih _ (fun x hx => he x (List.mem_cons_of_mem _ hx)) (bstep_range hp (he e (by simp)).2.2.2)
  exact this L _ h (by simp)

theorem lohi {L : List Ev} (h : ∀ e ∈ L, e.ok) (k : Nat) : 0 ≤ lo L k ∧ lo L k ≤ hi L k ∧ hi L k ≤ 18446744073709551615 := by
  have := bnd_range (n := (L.getD k default).node) (ep := (L.getD k default).epoch) (L := L.take k) (fun e he => h e (List.mem_of_mem_take he))
  unfold lo hi
  omega

theorem ways_none {L : List Ev} {k : Nat} (h : ways L k = none) : ∀ n, k ≤ n → ways L n = none := by
  intro n
  induction n with
  | zero => intro hk; obtain rfl : k = 0 := by omega
            exact h
  | succ n ih =>
    intro hk
    by_cases e : k = n + 1
    · subst e; exact h
    · show (ways L n).bind _ = none
      rw [ih (by omega)]; rfl

theorem wstep_range {m lo hi m' : Int} (hm : 1 ≤ m) (hl : lo ≤ hi) (h : wstep m lo hi = some m') : 1 ≤ m' ∧ m' ≤ 3000 ∧ hi - lo < 3000 := by
  unfold wstep at h
  split at h
  · cases h
  · rename_i hc
    cases h
    have h1 : 1 * (hi - lo + 1) ≤ m * (hi - lo + 1) := Int.mul_le_mul_of_nonneg_right hm (by omega)
    omega

theorem ways_range {L : List Ev} (h : ∀ e ∈ L, e.ok) : ∀ (k : Nat) (m : Int), ways L k = some m → 1 ≤ m ∧ m ≤ 3000
  | 0, m, hm => by cases hm; omega
  | k + 1, m, hm => by
    unfold ways at hm
    cases hw : ways L k with
    | none => rw [hw] at hm; cases hm
    | some p =>
      rw [hw] at hm
      have hp := ways_range h k p hw
      simp only [Option.bind_some] at hm
      split at hm
      · have := wstep_range hp.1 (lohi h k).2.1 hm; omega
      · cases hm; exact hp

theorem ways_small {L : List Ev} (h : ∀ e ∈ L, e.ok) : ∀ (n : Nat) (m : Int), ways L n = some m → ∀ k, k < n → (L.getD k default).kind = 3 → hi L k - lo L k < 3000
  | 0, _, _ => by intro k hk; omega
  | n + 1, m, hm => by
    intro k hk hk3
    unfold ways at hm
    cases hw : ways L n with
    | none => rw [hw] at hm; cases hm
    | some p =>
      rw [hw] at hm
      by_cases e : k = n
      · subst e
        have hp := ways_range h k p hw
        simp only [Option.bind_some] at hm
        rw [if_pos hk3] at hm
        exact (wstep_range hp.1 (lohi h k).2.1 hm).2.2
      · exact ways_small h n p hw k (by omega) hk3

theorem rng_take (l : Int) (n k : Nat) (h : k ≤ n) : (rng l n).take k = rng l k := by
  unfold rng
  rw [← List.map_take, List.take_range, Nat.min_eq_left h]
theorem rng_succ (l : Int) (k : Nat) : rng l (k + 1) = rng l k ++ [l + (k : Int)] := by
  unfold rng
  rw [List.range_succ, List.map_append]; rfl
theorem rng_length (l : Int) (n : Nat) : (rng l n).length = n := by unfold rng; simp

/-! ### rows of numbers, and rows of such rows, that a call owns -/
/-- a slice of numbers that owns its row, from the block base on -/
def OwnU (w : World) (base : Nat) (a : Option Addr) (cap : Nat) (C : List Int) : Prop := (∀ x ∈ C, wfu64 x) ∧ w.ownsRow base 64 1 (.slice a C.length cap) C.length (C.map (Value.int .u64))

structure Row1 where
  a : Option Addr
  cap : Nat
  C : List Int
instance : Inhabited Row1 := ⟨⟨none, 0, []⟩⟩
abbrev Row1.val (r : Row1) : Value := .slice r.a r.C.length r.cap

structure OwnUU (w : World) (base : Nat) (a : Option Addr) (cap : Nat) (R : List Row1) : Prop where
  row : w.ownsRow base 23 1 (.slice a R.length cap) R.length (R.map Row1.val)
  each : ∀ r ∈ R, OwnU w base r.a r.cap r.C
  full : ∀ r ∈ R, blkOf r.a ≠ none
  apart : R.Pairwise fun r s => blkOf r.a ≠ blkOf s.a

theorem ownsRow_chg {w w' : World} {base size n : Nat} {t : TypeId} {a : Option Addr} {cap : Nat} {xs : List Value} (h : w.ownsRow base t size (.slice a n cap) n xs) {S : List Nat} (hc : Chg S w w') (hn : ∀ g, blkOf a = some g → g ∉ S) : w'.ownsRow base t size (.slice a n cap) n xs := by
  refine ⟨h.1, ?_⟩
  rcases h.2 with h2 | ⟨g, c, cur, he, hb, hg, r⟩
  · exact .inl h2
  · cases he
    exact .inr ⟨g, _, cur, rfl, hb, hc.blk hg (hn g rfl), r⟩

theorem ownsRow_blk {w : World} {base size n : Nat} {t : TypeId} {a : Option Addr} {cap : Nat} {xs : List Value} (h : w.ownsRow base t size (.slice a n cap) n xs) {g : Nat} (hg : blkOf a = some g) : base ≤ g ∧ ∃ cur, Blk w g cur t := by
  rcases h.2 with ⟨he, _⟩ | ⟨g', c, cur, he, hb, hgg, r⟩
  · cases he; cases hg
  · cases he; cases hg; exact ⟨hb, cur, hgg⟩

namespace OwnU
variable {w w' : World} {base : Nat} {a : Option Addr} {cap : Nat} {C : List Int}
theorem nil (w : World) (base : Nat) : OwnU w base none 0 [] := ⟨by simp, World.ownsRow_nil _ _ _ _⟩
theorem chg (h : OwnU w base a cap C) {S : List Nat} (hc : Chg S w w') (hn : ∀ g, blkOf a = some g → g ∉ S) : OwnU w' base a cap C := ⟨h.1, ownsRow_chg h.2 hc hn⟩
theorem blk (h : OwnU w base a cap C) {g : Nat} (hg : blkOf a = some g) : base ≤ g ∧ ∃ cur, Blk w g cur 64 := ownsRow_blk h.2 hg
theorem lt (h : OwnU w base a cap C) {g : Nat} (hg : blkOf a = some g) : g < w.heap.size := by obtain ⟨_, cur, hB⟩ := h.blk hg; exact hB.lt
theorem mono (h : OwnU w base a cap C) {base' : Nat} (hb : base' ≤ base) : OwnU w base' a cap C := by
  refine ⟨h.1, h.2.1, ?_⟩
  rcases h.2.2 with h2 | ⟨g, c, cur, he, hb2, r⟩
  · exact .inl h2
  · exact .inr ⟨g, c, cur, he, by omega, r⟩
theorem nums (h : OwnU w base a cap C) (hl : C.length ≤ 1000000) : NumsAt w a C := by
  refine ⟨h.1, hl, ?_⟩
  rcases h.2.2 with ⟨_, h0⟩ | ⟨g, c, cur, he, hb, hg, h1, h2, h3, h4⟩
  · exact .inl (List.eq_nil_of_length_eq_zero h0)
  · cases he
    refine .inr ⟨g, 0, rfl, fun k hk => ?_⟩
    have h5 : (cur.toList.take (C.length * 1))[k]? = (C.map (Value.int .u64))[k]? := by rw [h4]
    rw [List.getElem?_take_of_lt (by omega), List.getElem?_map, List.getElem?_eq_getElem hk] at h5
    rw [Nat.zero_add, List.getD_eq_getElem?_getD, List.getElem?_eq_getElem hk]
    simp only [World.cell?, hg]
    simpa using h5
theorem cap_ge (h : OwnU w base a cap C) : C.length ≤ cap := by
  rcases h.2.2 with ⟨_, h0⟩ | ⟨g, c, cur, he, hb, hg, h1, _⟩
  · omega
  · cases he; exact h1
theorem some_of (h : OwnU w base a cap C) (hl : 0 < C.length) : blkOf a ≠ none := by
  rcases h.2.2 with ⟨_, h0⟩ | ⟨g, c, cur, he, _⟩
  · omega
  · cases he; simp [blkOf]
end OwnU

theorem blk_ne {w : World} {g g' : Nat} {c c' : Array Value} {t t' : TypeId} (h : Blk w g c t) (h' : Blk w g' c' t') (hne : t ≠ t') : g ≠ g' := by
  rintro rfl
  unfold Blk at h h'
  rw [h] at h'
  injection h' with h'
  injection h' with _ ht
  exact hne ht

namespace OwnUU
variable {w w' : World} {base : Nat} {a : Option Addr} {cap : Nat} {R : List Row1}
theorem nil (w : World) (base : Nat) : OwnUU w base none 0 [] := ⟨World.ownsRow_nil _ _ _ _, by simp, by simp, List.Pairwise.nil⟩
theorem chg0 (h : OwnUU w base a cap R) (hc : Chg [] w w') : OwnUU w' base a cap R := ⟨ownsRow_chg h.row hc (by simp), fun r hr => (h.each r hr).chg hc (by simp), h.full, h.apart⟩
theorem lt (h : OwnUU w base a cap R) {g : Nat} (hg : blkOf a = some g) : base ≤ g ∧ g < w.heap.size := by obtain ⟨hb, cur, hB⟩ := ownsRow_blk h.row hg; exact ⟨hb, hB.lt⟩
end OwnUU

theorem info27 : (Tryz.prog.info? 64).map (fun i => (i.zero, i.size, i.bytes)) = some (some (.int .u64 0), 1, 8) := by kernel_rfl
theorem info43 : (Tryz.prog.info? 23).map (fun i => (i.zero, i.size, i.bytes)) = some (some (.slice none 0 0), 1, 24) := by kernel_rfl

theorem appendU_run (w : World) (ty : TypeId) {base : Nat} {a : Option Addr} {cap : Nat} {L : List Int} (h : OwnU w base a cap L) (hb : base ≤ w.heap.size) (hl : L.length < 1000000000) (g c : Nat) (x : Int) (hx : wfu64 x) (hc : w.cell? ⟨g, 0, none⟩ = some (.int .u64 x)) :
    ∃ a' cap' w', (Builtin.append_ #[23, 23] ty #[.slice a L.length cap, .slice (some ⟨g, 0, none⟩) 1 c]).run Tryz.prog w = .ok (.slice a' (L.length + 1) cap') w' ∧ OwnU w' base a' cap' (L ++ [x]) ∧ w.grownBy w' (blkOf a) ∧ (blkOf a' = blkOf a ∨ blkOf a' = some w.heap.size) := by
  obtain ⟨i0, hi, hz0, hz1, hz2⟩ := info_parts info27
  obtain ⟨v', w', hr, h1, h2, _, h4⟩ := run_append_own_at (P := Tryz.prog) w base 23 ty 64 i0 _ 1 8 Tryz.underlying23 hi hz0 hz1 hz2 rfl (by decide) _ _ _ h.2 ⟨g, 0, none⟩ 1 c [.int .u64 x] (by simp) (by
    intro j u hj
    match j, hj with
    | 0, hj => simp at hj; subst hj; simpa [Addr.add] using hc) (by intro u hu; simp only [List.mem_cons, List.not_mem_nil, or_false] at hu; rcases hu with rfl; rfl) (by unfold maxLen; omega) (by omega) hb
  obtain ⟨a', cap', rfl, _⟩ := ownsRow_shape h1
  refine ⟨a', cap', w', hr, ⟨fun y hy => ?_, ?_⟩, by rw [ownBlock_eq] at h2; exact h2, by rw [ownBlock_eq, ownBlock_eq] at h4; exact h4⟩
  · rcases List.mem_append.1 hy with hy | hy
    · exact h.1 y hy
    · rw [List.mem_singleton.1 hy]; exact hx
  · rw [List.length_append, List.map_append]
    simpa using h1

theorem appendUU_run (w : World) (ty : TypeId) {base : Nat} {a : Option Addr} {cap : Nat} {R : List Row1} (h : OwnUU w base a cap R) (hb : base ≤ w.heap.size) (hl : R.length < 1000000000) (g c : Nat) (r : Row1) (hr : OwnU w base r.a r.cap r.C) (hrs : blkOf r.a ≠ none) (hrn : ∀ s ∈ R, blkOf s.a ≠ blkOf r.a)
    (hc : w.cell? ⟨g, 0, none⟩ = some r.val) :
    ∃ a' cap' w', (Builtin.append_ #[29, 29] ty #[.slice a R.length cap, .slice (some ⟨g, 0, none⟩) 1 c]).run Tryz.prog w = .ok (.slice a' (R.length + 1) cap') w' ∧ OwnUU w' base a' cap' (R ++ [r]) ∧ w.grownBy w' (blkOf a) ∧ (blkOf a' = blkOf a ∨ blkOf a' = some w.heap.size) := by
  obtain ⟨i0, hi, hz0, hz1, hz2⟩ := info_parts info43
  obtain ⟨v', w', hrun, h1, h2, _, h4⟩ := run_append_own_at (P := Tryz.prog) w base 29 ty 23 i0 _ 1 24 Tryz.underlying29 hi hz0 hz1 hz2 rfl (by decide) _ _ _ h.row ⟨g, 0, none⟩ 1 c [r.val] (by simp) (by
    intro j u hj
    match j, hj with
    | 0, hj => simp at hj; subst hj; simpa [Addr.add] using hc) (by intro u hu; simp only [List.mem_cons, List.not_mem_nil, or_false] at hu; rcases hu with rfl; rfl) (by unfold maxLen; omega) (by omega) hb
  obtain ⟨a', cap', rfl, _⟩ := ownsRow_shape h1
  rw [ownBlock_eq] at h2
  rw [ownBlock_eq, ownBlock_eq] at h4
  have hchg : Chg (blkOf a).toList w w' := (Chg.refl _ _).grown h2 (fun k hk => .inl (by simp [hk]))
  have hne : ∀ b : Option Addr, (∃ base cap C, OwnU w base b cap C) → ∀ g', blkOf b = some g' → g' ∉ (blkOf a).toList := by
    rintro b ⟨base', cap', C, hU⟩ g' hg' hm
    have hag : blkOf a = some g' := by simpa using hm
    obtain ⟨_, c1, hB1⟩ := hU.blk hg'
    obtain ⟨_, c2, hB2⟩ := ownsRow_blk h.row hag
    exact blk_ne hB1 hB2 (by decide) rfl
  refine ⟨a', cap', w', hrun, ⟨?_, fun s hs => ?_, fun s hs => ?_, ?_⟩, h2, h4⟩
  · rw [List.length_append, List.map_append]; simpa using h1
  · rcases List.mem_append.1 hs with hs | hs
    · exact (h.each s hs).chg hchg (hne _ ⟨_, _, _, h.each s hs⟩)
    · rw [List.mem_singleton.1 hs]; exact hr.chg hchg (hne _ ⟨_, _, _, hr⟩)
  · rcases List.mem_append.1 hs with hs | hs
    · exact h.full s hs
    · rw [List.mem_singleton.1 hs]; exact hrs
  · rw [List.pairwise_append]
    refine ⟨h.apart, List.pairwise_singleton _ _, fun s hs t ht => ?_⟩
    rw [List.mem_singleton.1 ht]; exact hrn s hs

section
variable {ops : Array Oper} {rest : List Oper} {o : Oper} {a : Act} {Q : Exit → Act → World → Prop}
theorem wpList_appendU (w : World) (hgd : o.guard = none) (s x : Operand) (ho : o.op = .call { callee := .builtin .append, args := #[s, x], argTypes := #[23, 23] })
    (base : Nat) (sa : Option Addr) (cap n : Nat) (L : List Int) (hn : L.length = n) (hs : a.eval s = .slice sa n cap) (hown : OwnU w base sa cap L) (hb : base ≤ w.heap.size) (hl : L.length < 1000000000)
    (g c : Nat) (e : Int) (he : wfu64 e) (hx : a.eval x = .slice (some ⟨g, 0, none⟩) 1 c) (hc : w.cell? ⟨g, 0, none⟩ = some (.int .u64 e))
    (h : ∀ a' cap' w', OwnU w' base a' cap' (L ++ [e]) → w.grownBy w' (blkOf sa) → (blkOf a' = blkOf sa ∨ blkOf a' = some w.heap.size) → wpList Tryz.prog ops Q rest (a.put o.dst (.slice a' (n + 1) cap')) w') : wpList Tryz.prog ops Q (o :: rest) a w := by
  subst hn
  refine wpList_plain hgd fun K hK => ?_
  obtain ⟨a', cap', w', hr, h1, h2, h3⟩ := appendU_run w o.type hown hb hl g c e he hc
  unfold Oper.wp execOp
  simp only [ho, resolve, invoke, builtin, Sem.run_bind, Sem.run_pure, Result.andThen_ok, List.map_toArray, List.map_cons, List.map_nil, hs, hx, hr]
  exact hK _ _ (h a' cap' w' h1 h2 h3)
theorem wpList_appendUU (w : World) (hgd : o.guard = none) (s x : Operand) (ho : o.op = .call { callee := .builtin .append, args := #[s, x], argTypes := #[29, 29] })
    (base : Nat) (sa : Option Addr) (cap n : Nat) (L : List Row1) (hn : L.length = n) (hs : a.eval s = .slice sa n cap) (hown : OwnUU w base sa cap L) (hb : base ≤ w.heap.size) (hl : L.length < 1000000000)
    (g c : Nat) (e : Row1) (he : OwnU w base e.a e.cap e.C) (hrs : blkOf e.a ≠ none) (hrn : ∀ s ∈ L, blkOf s.a ≠ blkOf e.a) (hx : a.eval x = .slice (some ⟨g, 0, none⟩) 1 c) (hc : w.cell? ⟨g, 0, none⟩ = some e.val)
    (h : ∀ a' cap' w', OwnUU w' base a' cap' (L ++ [e]) → w.grownBy w' (blkOf sa) → (blkOf a' = blkOf sa ∨ blkOf a' = some w.heap.size) → wpList Tryz.prog ops Q rest (a.put o.dst (.slice a' (n + 1) cap')) w') : wpList Tryz.prog ops Q (o :: rest) a w := by
  subst hn
  refine wpList_plain hgd fun K hK => ?_
  obtain ⟨a', cap', w', hr, h1, h2, h3⟩ := appendUU_run w o.type hown hb hl g c e he hrs hrn hc
  unfold Oper.wp execOp
  simp only [ho, resolve, invoke, builtin, Sem.run_bind, Sem.run_pure, Result.andThen_ok, List.map_toArray, List.map_cons, List.map_nil, hs, hx, hr]
  exact hK _ _ (h a' cap' w' h1 h2 h3)
end

end Go.Proofs.YteokjobkjmibfaaGreat
