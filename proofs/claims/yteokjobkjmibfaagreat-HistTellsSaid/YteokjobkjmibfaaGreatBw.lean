/- Lists that are kept: where they lie, and that no two of them share memory. No condition. -/
import Derived.Test.YteokjobkjmibfaaGreatBs
namespace Go.Proofs.YteokjobkjmibfaaGreat
open Go.RowKit Go.Maps

/-- a kind of elements, and the kind of its lists -/
structure Kd.Pair {α : Type} (K : Kd α) (KK : Kd (Lst α)) : Prop where
  k : K.Law
  kk : KK.Law
  cells : ∀ r, KK.cells r = [r.val]
  size : KK.size = 1
  ne : K.te ≠ KK.te
  nb : K.te ≠ 43 ∧ KK.te ≠ 43
theorem pairN : Kd.Pair kN kNN := ⟨lawN, lawNN, fun _ => rfl, rfl, by decide, by decide⟩
theorem pairM : Kd.Pair kM kMM := ⟨lawM, lawMM, fun _ => rfl, rfl, by decide, by decide⟩

section
variable {α : Type}

theorem Src.chg [Inhabited α] {K : Kd α} (hK : K.Law) {w w' : World} {v : Value} {L : List α} (h : Src K w v L) {S : List Nat} (hc : Chg S w w') (hn : ∀ g, g < w.heap.size → g ∉ S) : Src K w' v L := by
  obtain ⟨h1, ⟨rfl, rfl⟩ | ⟨p, c, rfl, hsp, h2⟩⟩ := h
  · exact ⟨h1, .inl ⟨rfl, rfl⟩⟩
  · refine ⟨h1, .inr ⟨p, c, rfl, hsp, fun k hk r hr => ?_⟩⟩
    have := h2 k hk r hr
    rw [← this]
    exact hc.cell (p := ⟨p.block, p.off + (k * K.size + r), none⟩) (cell_some hK hr this) (hn _ (cell_some hK hr this))
theorem Src.chg0 [Inhabited α] {K : Kd α} (hK : K.Law) {w w' : World} {v : Value} {L : List α} (h : Src K w v L) (hc : Chg [] w w') : Src K w' v L := h.chg hK hc (by simp)

structure RowsAt (K : Kd α) (KK : Kd (Lst α)) (w : World) (base : Nat) (a : Option Addr) (cap : Nat) (R : List (Lst α)) : Prop where
  row : Own KK w a cap R
  each : ∀ r ∈ R, Own K w r.a r.cap r.L
  apart : R.Pairwise fun r s => ∀ g, blkOf r.a = some g → blkOf s.a ≠ some g
  new : ∀ g, blkOf a = some g → base ≤ g
  news : ∀ r ∈ R, ∀ g, blkOf r.a = some g → base ≤ g
  short : ∀ r ∈ R, r.L.length ≤ 900000

structure Part (α : Type) where
  a : Option Addr
  cap : Nat
  R : List (Lst α)
  a' : Option Addr
  cap' : Nat
  R' : List (Lst α)

structure KeepAt (K : Kd α) (KK : Kd (Lst α)) (w : World) (base : Nat) (P : Part α) : Prop where
  rows : RowsAt K KK w base P.a P.cap P.R
  wrow : Own KK w P.a' P.cap' P.R'
  weach : ∀ r ∈ P.R', Own K w r.a r.cap r.L
  same : P.R'.map Lst.L = P.R.map Lst.L
  wnew : ∀ g, blkOf P.a' = some g → base ≤ g
  ne : ∀ g, blkOf P.a = some g → blkOf P.a' ≠ some g

/-- blocks of other types than these -/
def Others (w : World) (S : List Nat) (t t' : TypeId) : Prop := ∀ g ∈ S, ∃ cur u, Blk w g cur u ∧ u ≠ t ∧ u ≠ t'
theorem Others.nil (w : World) (t t' : TypeId) : Others w [] t t' := fun _ h => by simp at h

theorem Own.chgT {K : Kd α} {w w' : World} {a : Option Addr} {cap : Nat} {L : List α} (h : Own K w a cap L) {S : List Nat} (hc : Chg S w w') (hS : ∀ g ∈ S, ∃ cur u, Blk w g cur u ∧ u ≠ K.te) : Own K w' a cap L :=
  h.chg hc fun g hg hm => by
    obtain ⟨c1, h1⟩ := h.blk hg
    obtain ⟨c2, u, h2, h3⟩ := hS g hm
    exact blk_ne h2 h1 h3 rfl

theorem RowsAt.chgT {K : Kd α} {KK : Kd (Lst α)} {w w' : World} {base : Nat} {a : Option Addr} {cap : Nat} {R : List (Lst α)} (h : RowsAt K KK w base a cap R) {S : List Nat} (hc : Chg S w w') (hS : Others w S K.te KK.te) : RowsAt K KK w' base a cap R :=
  ⟨h.row.chgT hc (fun g hg => by obtain ⟨c, u, h1, h2, h3⟩ := hS g hg; exact ⟨c, u, h1, h3⟩), fun r hr => (h.each r hr).chgT hc (fun g hg => by obtain ⟨c, u, h1, h2, h3⟩ := hS g hg; exact ⟨c, u, h1, h2⟩), h.apart, h.new, h.news, h.short⟩
theorem KeepAt.chgT {K : Kd α} {KK : Kd (Lst α)} {w w' : World} {base : Nat} {P : Part α} (h : KeepAt K KK w base P) {S : List Nat} (hc : Chg S w w') (hS : Others w S K.te KK.te) : KeepAt K KK w' base P :=
  ⟨h.rows.chgT hc hS, h.wrow.chgT hc (fun g hg => by obtain ⟨c, u, h1, h2, h3⟩ := hS g hg; exact ⟨c, u, h1, h3⟩), fun r hr => (h.weach r hr).chgT hc (fun g hg => by obtain ⟨c, u, h1, h2, h3⟩ := hS g hg; exact ⟨c, u, h1, h2⟩), h.same, h.wnew, h.ne⟩
theorem RowsAt.chg0 {K : Kd α} {KK : Kd (Lst α)} {w w' : World} {base : Nat} {a : Option Addr} {cap : Nat} {R : List (Lst α)} (h : RowsAt K KK w base a cap R) (hc : Chg [] w w') : RowsAt K KK w' base a cap R := h.chgT hc (Others.nil _ _ _)
theorem KeepAt.chg0 {K : Kd α} {KK : Kd (Lst α)} {w w' : World} {base : Nat} {P : Part α} (h : KeepAt K KK w base P) (hc : Chg [] w w') : KeepAt K KK w' base P := h.chgT hc (Others.nil _ _ _)

/-- a list in a row of lists -/
theorem Own.val {K : Kd α} {KK : Kd (Lst α)} (hp : Kd.Pair K KK) {w : World} {a : Option Addr} {cap : Nat} {R : List (Lst α)} (h : Own KK w a cap R) {k : Nat} (hk : k < R.length) : ∃ g, a = some ⟨g, 0, none⟩ ∧ R.length ≤ cap ∧ w.cell? ⟨g, k, none⟩ = some (R.getD k default).val := by
  rcases h.shape with ⟨rfl, rfl, rfl⟩ | ⟨g, rfl, hc⟩
  · simp at hk
  · refine ⟨g, rfl, hc, ?_⟩
    have := (h.cells hp.kk).2.2 k hk 0 (by rw [hp.size]; omega)
    rw [hp.size, hp.cells, Nat.mul_one, Nat.add_zero] at this
    exact this
theorem Rd.val {K : Kd α} {KK : Kd (Lst α)} (hp : Kd.Pair K KK) {w : World} {a : Option Addr} {R : List (Lst α)} (h : Rd KK w a R) {k : Nat} (hk : k < R.length) : ∃ g o, a = some ⟨g, o, none⟩ ∧ w.cell? ⟨g, o + k, none⟩ = some (R.getD k default).val := by
  rcases h with rfl | ⟨g, o, rfl, h⟩
  · simp at hk
  · refine ⟨g, o, rfl, ?_⟩
    have := h k hk 0 (by rw [hp.size]; omega)
    rw [hp.size, hp.cells, Nat.mul_one, Nat.add_zero] at this
    exact this

theorem src_lst {K : Kd α} {KK : Kd (Lst α)} (hp : Kd.Pair K KK) (hok : ∀ r, KK.ok r) {w : World} {b : Nat} {r : Lst α} {t : TypeId} (hB : Blk w b #[r.val] t) : Src KK w (.slice (some ⟨b, 0, none⟩) 1 1) [r] :=
  src_one (hok r) (by rw [hp.cells]; exact hB)

/-- one list more -/
theorem KeepAt.add {K : Kd α} {KK : Kd (Lst α)} (hp : Kd.Pair K KK) {w w1 w2 w3 w4 w5 : World} {base : Nat} {P : Part α} (h : KeepAt K KK w base P) {r : Lst α} (hr : Own K w r.a r.cap r.L) (hrn : ∀ s ∈ P.R, ∀ g, blkOf s.a = some g → blkOf r.a ≠ some g) (hrb : ∀ g, blkOf r.a = some g → base ≤ g) (hrl : r.L.length ≤ 900000)
    {B : Nat} {cs : Array Value} (hB : Blk w B cs 43) (hbase : base ≤ w.heap.size)
    -- the list goes behind the lists
    {a1 : Option Addr} {c1 : Nat} (hc1 : Chg [] w w1) (hO1 : Own KK w2 a1 c1 (P.R ++ [r])) (hg1 : w1.grownBy w2 (blkOf P.a)) (hat1 : blkOf a1 = blkOf P.a ∨ blkOf a1 = some w1.heap.size)
    -- its place is stored, a copy is made
    {o1 : Nat} {v1 : Value} {a3 : Option Addr} {c3 : Nat} (hc3 : Chg [] (w2.setCell ⟨B, o1, none⟩ v1) w3) (hO3 : Own K w3 a3 c3 r.L)
    -- the copy goes behind the copies
    {a4 : Option Addr} {c4 : Nat} (hO4 : Own KK w4 a4 c4 (P.R' ++ [⟨a3, c3, r.L⟩])) (hg4 : w3.grownBy w4 (blkOf P.a')) (hat4 : blkOf a4 = blkOf P.a' ∨ blkOf a4 = some w3.heap.size)
    {o4 : Nat} {v4 : Value} (hw5 : w5 = w4.setCell ⟨B, o4, none⟩ v4) :
    KeepAt K KK w5 base ⟨a1, c1, P.R ++ [r], a4, c4, P.R' ++ [⟨a3, c3, r.L⟩]⟩ ∧ Chg (B :: ((blkOf P.a).toList ++ (blkOf P.a').toList)) w w5 ∧ (∀ g, blkOf a1 = some g → blkOf P.a = some g ∨ w.heap.size ≤ g) ∧ (∀ g, blkOf a4 = some g → blkOf P.a' = some g ∨ w.heap.size ≤ g) := by
  subst hw5
  have hBlt := hB.lt
  -- the blocks
  have hk43 : ∀ {W : World} {b : Option Addr} {c : Nat} {L : List α}, Own K W b c L → (∃ cs, Blk W B cs 43) → ∀ g, blkOf b = some g → g ≠ B := fun hO ⟨cs, hb⟩ g hg e => by
    subst e
    obtain ⟨c, hc⟩ := hO.blk hg
    exact blk_ne hc hb hp.nb.1 rfl
  have hkk43 : ∀ {W : World} {b : Option Addr} {c : Nat} {L : List (Lst α)}, Own KK W b c L → (∃ cs, Blk W B cs 43) → ∀ g, blkOf b = some g → g ≠ B := fun hO ⟨cs, hb⟩ g hg e => by
    subst e
    obtain ⟨c, hc⟩ := hO.blk hg
    exact blk_ne hc hb hp.nb.2 rfl
  have hkkk : ∀ {W : World} {b b' : Option Addr} {c c' : Nat} {L : List α} {L' : List (Lst α)}, Own K W b c L → Own KK W b' c' L' → ∀ g, blkOf b = some g → blkOf b' ≠ some g := fun hO hO' g hg hg' => by
    obtain ⟨c, hc⟩ := hO.blk hg
    obtain ⟨c', hc'⟩ := hO'.blk hg'
    exact blk_ne hc hc' hp.ne rfl
  -- world 1
  have hB1 := hB.chg hc1 (by simp)
  have row1 := h.rows.row.chg hc1 (by simp)
  have wrow1 := h.wrow.chg hc1 (by simp)
  -- world 2
  have hc2 : Chg (blkOf P.a).toList w1 w2 := (Chg.refl _ _).grown hg1 (fun k hk => .inl (by simp [hk]))
  have hB2 := hB1.chg hc2 (fun hm => hkk43 row1 ⟨_, hB1⟩ B (by simpa using hm) rfl)
  have e2 : ∀ {b : Option Addr} {c : Nat} {L : List α}, Own K w b c L → Own K w2 b c L := fun hO => (hO.chg hc1 (by simp)).chg hc2 (fun g hg hm => hkkk (hO.chg hc1 (by simp)) row1 g hg (by simpa using hm))
  have wrow2 := wrow1.chg hc2 (fun g hg hm => h.ne g (by simpa using hm) hg)
  have a1lt : ∀ g, blkOf a1 = some g → blkOf P.a = some g ∨ w1.heap.size ≤ g := fun g hg => by
    rcases hat1 with e | e
    · exact .inl (e ▸ hg)
    · rw [e] at hg; cases hg; exact .inr (Nat.le_refl _)
  -- the store
  have hcs : Chg [B] w2 (w2.setCell ⟨B, o1, none⟩ v1) := (Chg.refl _ _).setCell _ (.inl (by simp)) v1
  have e2s : ∀ {b : Option Addr} {c : Nat} {L : List α}, Own K w2 b c L → Own K (w2.setCell ⟨B, o1, none⟩ v1) b c L := fun hO => hO.chg hcs (fun g hg hm => hk43 hO ⟨_, hB2⟩ g hg (by simpa using hm))
  have row2s := hO1.chg hcs (fun g hg hm => hkk43 hO1 ⟨_, hB2⟩ g hg (by simpa using hm))
  have wrow2s := wrow2.chg hcs (fun g hg hm => hkk43 wrow2 ⟨_, hB2⟩ g hg (by simpa using hm))
  have hB2s := hB2.set o1 v1
  -- world 3
  have hB3 := hB2s.chg hc3 (by simp)
  have row3 := row2s.chg hc3 (by simp)
  have wrow3 := wrow2s.chg hc3 (by simp)
  -- world 4
  have hc4 : Chg (blkOf P.a').toList w3 w4 := (Chg.refl _ _).grown hg4 (fun k hk => .inl (by simp [hk]))
  have hB4 := hB3.chg hc4 (fun hm => hkk43 wrow3 ⟨_, hB3⟩ B (by simpa using hm) rfl)
  have ne13 : ∀ g, blkOf a1 = some g → blkOf P.a' ≠ some g := fun g hg e => by
    rcases a1lt g hg with e1 | e1
    · exact h.ne g e1 e
    · have := wrow1.lt e; omega
  have row4 := row3.chg hc4 (fun g hg hm => ne13 g hg (by simpa using hm))
  have e4 : ∀ {b : Option Addr} {c : Nat} {L : List α}, Own K w3 b c L → Own K w4 b c L := fun hO => hO.chg hc4 (fun g hg hm => hkkk hO wrow3 g hg (by simpa using hm))
  -- the last store
  have hcs5 : Chg [B] w4 (w4.setCell ⟨B, o4, none⟩ v4) := (Chg.refl _ _).setCell _ (.inl (by simp)) v4
  have e5 : ∀ {b : Option Addr} {c : Nat} {L : List α}, Own K w4 b c L → Own K (w4.setCell ⟨B, o4, none⟩ v4) b c L := fun hO => hO.chg hcs5 (fun g hg hm => hk43 hO ⟨_, hB4⟩ g hg (by simpa using hm))
  have row5 := row4.chg hcs5 (fun g hg hm => hkk43 row4 ⟨_, hB4⟩ g hg (by simpa using hm))
  have wrow5 := hO4.chg hcs5 (fun g hg hm => hkk43 hO4 ⟨_, hB4⟩ g hg (by simpa using hm))
  have all5 : ∀ {b : Option Addr} {c : Nat} {L : List α}, Own K w b c L → Own K (w4.setCell ⟨B, o4, none⟩ v4) b c L := fun hO => e5 (e4 ((e2s (e2 hO)).chg hc3 (by simp)))
  have s12 := hc1.size
  have s23 := hc2.size
  have s2s : w2.heap.size = (w2.setCell ⟨B, o1, none⟩ v1).heap.size := by simp [World.setCell]
  have s3 := hc3.size
  have hsz : w.heap.size ≤ w3.heap.size := by omega
  have a4lt : ∀ g, blkOf a4 = some g → blkOf P.a' = some g ∨ w3.heap.size ≤ g := fun g hg => by
    rcases hat4 with e | e
    · exact .inl (e ▸ hg)
    · rw [e] at hg; cases hg; exact .inr (Nat.le_refl _)
  refine ⟨⟨⟨row5, fun s hs => ?_, ?_, fun g hg => ?_, fun s hs g hg => ?_, fun s hs => ?_⟩, wrow5, fun s hs => ?_, ?_, fun g hg => ?_, fun g hg e => ?_⟩, ?_, fun g hg => ?_, fun g hg => ?_⟩
  · rcases List.mem_append.1 hs with hs | hs
    · exact all5 (h.rows.each s hs)
    · rw [List.mem_singleton.1 hs]; exact all5 hr
  · rw [List.pairwise_append]
    refine ⟨h.rows.apart, List.pairwise_singleton _ _, fun s hs t ht => ?_⟩
    rw [List.mem_singleton.1 ht]; exact hrn s hs
  · rcases a1lt g hg with e | e
    · exact h.rows.new g e
    · omega
  · rcases List.mem_append.1 hs with hs | hs
    · exact h.rows.news s hs g hg
    · rw [List.mem_singleton.1 hs] at hg; exact hrb g hg
  · rcases List.mem_append.1 hs with hs | hs
    · exact h.rows.short s hs
    · rw [List.mem_singleton.1 hs]; exact hrl
  · rcases List.mem_append.1 hs with hs | hs
    · exact all5 (h.weach s hs)
    · rw [List.mem_singleton.1 hs]; exact e5 (e4 hO3)
  · simp only
    rw [List.map_append, List.map_append, h.same]; rfl
  · rcases a4lt g hg with e | e
    · exact h.wnew g e
    · omega
  · simp only at hg e
    rcases a4lt g e with e1 | e1
    · exact ne13 g hg e1
    · have := row3.lt hg; omega
  · have t1 : Chg (B :: ((blkOf P.a).toList ++ (blkOf P.a').toList)) w w2 := (hc1.mono (by simp)).trans (hc2.mono (by intro k hk; left; simp at hk ⊢; exact .inr (.inl hk)))
    have t2 := t1.trans (hcs.mono (by intro k hk; left; simp at hk ⊢; exact .inl hk))
    have t3 := t2.trans (hc3.mono (by simp))
    have t4 := t3.trans (hc4.mono (by intro k hk; left; simp at hk ⊢; exact .inr (.inr hk)))
    exact t4.trans (hcs5.mono (by intro k hk; left; simp at hk ⊢; exact .inl hk))
  · rcases a1lt g hg with e | e
    · exact .inl e
    · exact .inr (by omega)
  · rcases a4lt g hg with e | e
    · exact .inl e
    · exact .inr (by omega)

/-! ### marks -/
def rowBlks (R : List (Lst α)) : List Nat := R.filterMap fun r => blkOf r.a
theorem mem_rowBlks {R : List (Lst α)} {g : Nat} : g ∈ rowBlks R ↔ ∃ r ∈ R, blkOf r.a = some g := by
  unfold rowBlks
  rw [List.mem_filterMap]
theorem RowsAt.others {K : Kd α} {KK : Kd (Lst α)} {w : World} {base : Nat} {a : Option Addr} {cap : Nat} {R : List (Lst α)} (h : RowsAt K KK w base a cap R) {t t' : TypeId} (h1 : K.te ≠ t) (h2 : K.te ≠ t') : Others w (rowBlks R) t t' := fun g hg => by
  obtain ⟨r, hr, hg⟩ := mem_rowBlks.1 hg
  obtain ⟨c, hc⟩ := (h.each r hr).blk hg
  exact ⟨c, _, hc, h1, h2⟩
theorem RowsAt.notB {K : Kd α} {KK : Kd (Lst α)} (hp : Kd.Pair K KK) {w : World} {base : Nat} {a : Option Addr} {cap : Nat} {R : List (Lst α)} (h : RowsAt K KK w base a cap R) {B : Nat} {cs : Array Value} (hB : Blk w B cs 43) : B ∉ rowBlks R := fun hm => by
  obtain ⟨r, hr, hg⟩ := mem_rowBlks.1 hm
  obtain ⟨c, hc⟩ := (h.each r hr).blk hg
  exact blk_ne hc hB hp.nb.1 rfl
theorem RowsAt.notA {K : Kd α} {KK : Kd (Lst α)} (hp : Kd.Pair K KK) {w : World} {base : Nat} {a : Option Addr} {cap : Nat} {R : List (Lst α)} (h : RowsAt K KK w base a cap R) {g : Nat} (hg : blkOf a = some g) : g ∉ rowBlks R := fun hm => by
  obtain ⟨r, hr, hg'⟩ := mem_rowBlks.1 hm
  obtain ⟨c, hc⟩ := (h.each r hr).blk hg'
  obtain ⟨c', hc'⟩ := h.row.blk hg
  exact blk_ne hc hc' hp.ne rfl

/-- lists each of which bears its own marks -/
structure Marked [Inhabited α] (K : Kd α) (KK : Kd (Lst α)) (mks : Nat → Nat → Nat → List α) (w : World) (a : Option Addr) (G : List (Lst α)) : Prop where
  rd : Rd KK w a G
  ty : ∀ g, blkOf a = some g → G ≠ [] → ∃ cur, Blk w g cur KK.te
  each : ∀ k, k < G.length → (G.getD k default).L = mks k 0 (G.getD k default).L.length ∧ Rd K w (G.getD k default).a (G.getD k default).L ∧ (G.getD k default).L.length ≤ 1000000 ∧ ∀ g, blkOf (G.getD k default).a = some g → ∃ cur, Blk w g cur K.te

theorem blk_ty {w w' : World} {S : List Nat} (hc : Chg S w w') {g : Nat} {t : TypeId} (h : ∃ cur, Blk w g cur t) (hn : g ∉ S) : ∃ cur, Blk w' g cur t := by
  obtain ⟨c, h⟩ := h
  exact ⟨c, h.chg hc hn⟩
theorem Others.not {w : World} {S : List Nat} {t t' : TypeId} (h : Others w S t t') {g : Nat} (hb : ∃ cur, Blk w g cur t) : g ∉ S := fun hm => by
  obtain ⟨c, hc⟩ := hb
  obtain ⟨c', u, h1, h2, _⟩ := h g hm
  exact blk_ne h1 hc h2 rfl
theorem Others.not' {w : World} {S : List Nat} {t t' : TypeId} (h : Others w S t t') {g : Nat} (hb : ∃ cur, Blk w g cur t') : g ∉ S := fun hm => by
  obtain ⟨c, hc⟩ := hb
  obtain ⟨c', u, h1, _, h2⟩ := h g hm
  exact blk_ne h1 hc h2 rfl

theorem Marked.chgT [Inhabited α] {K : Kd α} {KK : Kd (Lst α)} (hp : Kd.Pair K KK) {mks : Nat → Nat → Nat → List α} {w w' : World} {a : Option Addr} {G : List (Lst α)} (h : Marked K KK mks w a G) {S : List Nat} (hc : Chg S w w') (hS : Others w S K.te KK.te) : Marked K KK mks w' a G := by
  by_cases h0 : G = []
  · subst h0
    exact ⟨.inl rfl, fun _ _ h => absurd rfl h, fun k hk => by simp at hk⟩
  · refine ⟨h.rd.chg hp.kk hc (fun g hg => hS.not' (h.ty g hg h0)), fun g hg h1 => blk_ty hc (h.ty g hg h1) (hS.not' (h.ty g hg h0)), fun k hk => ?_⟩
    obtain ⟨h1, h2, h3, h4⟩ := h.each k hk
    exact ⟨h1, h2.chg hp.k hc (fun g hg => hS.not (h4 g hg)), h3, fun g hg => blk_ty hc (h4 g hg) (hS.not (h4 g hg))⟩
theorem Marked.chg0 [Inhabited α] {K : Kd α} {KK : Kd (Lst α)} (hp : Kd.Pair K KK) {mks : Nat → Nat → Nat → List α} {w w' : World} {a : Option Addr} {G : List (Lst α)} (h : Marked K KK mks w a G) (hc : Chg [] w w') : Marked K KK mks w' a G := h.chgT hp hc (Others.nil _ _ _)

/-- the lists, the first i of them marked -/
def markTo (mks : Nat → Nat → Nat → List α) (i : Nat) (R : List (Lst α)) : List (Lst α) := R.mapIdx fun j r => if j < i then { r with L := mks j 0 r.L.length } else r
theorem markTo_length (mks : Nat → Nat → Nat → List α) (i : Nat) (R : List (Lst α)) : (markTo mks i R).length = R.length := by unfold markTo; simp
theorem markTo_get (mks : Nat → Nat → Nat → List α) (i : Nat) (R : List (Lst α)) {j : Nat} (hj : j < R.length) : (markTo mks i R).getD j default = if j < i then { R.getD j default with L := mks j 0 (R.getD j default).L.length } else R.getD j default := by
  unfold markTo
  simp [List.getD_eq_getElem?_getD, hj]
theorem markTo_zero (mks : Nat → Nat → Nat → List α) (R : List (Lst α)) : markTo mks 0 R = R := by
  unfold markTo
  apply List.ext_getElem?
  intro i
  simp
theorem markTo_val {mks : Nat → Nat → Nat → List α} (hl : ∀ i f n, (mks i f n).length = n) {i : Nat} {R : List (Lst α)} {j : Nat} (hj : j < R.length) : ((markTo mks i R).getD j default).val = (R.getD j default).val := by
  rw [markTo_get mks i R hj]
  split
  · unfold Lst.val; simp only; rw [hl]
  · rfl
theorem flat_val {K : Kd α} {KK : Kd (Lst α)} (hp : Kd.Pair K KK) (R : List (Lst α)) : R.flatMap KK.cells = R.map Lst.val := by
  induction R with
  | nil => rfl
  | cons r t ih => rw [List.flatMap_cons, ih, hp.cells]; rfl
theorem markTo_vals {mks : Nat → Nat → Nat → List α} (hl : ∀ i f n, (mks i f n).length = n) (i : Nat) (R : List (Lst α)) : (markTo mks i R).map Lst.val = R.map Lst.val := by
  apply List.ext_getElem?
  intro j
  by_cases hj : j < R.length
  · have h1 := markTo_val (i := i) hl hj
    rw [List.getD_eq_getElem?_getD, List.getD_eq_getElem?_getD, List.getElem?_eq_getElem hj, List.getElem?_eq_getElem (by rw [markTo_length]; exact hj)] at h1
    rw [List.getElem?_map, List.getElem?_map, List.getElem?_eq_getElem hj, List.getElem?_eq_getElem (by rw [markTo_length]; exact hj)]
    simp only [Option.getD_some] at h1
    simp [h1]
  · rw [List.getElem?_eq_none (by simp [markTo_length]; omega), List.getElem?_eq_none (by simp; omega)]
theorem Own.vals {K : Kd α} {KK : Kd (Lst α)} (hp : Kd.Pair K KK) (hok : ∀ r, KK.ok r) {w : World} {a : Option Addr} {cap : Nat} {R R' : List (Lst α)} (h : Own KK w a cap R) (hv : R'.map Lst.val = R.map Lst.val) : Own KK w a cap R' := by
  have hl : R'.length = R.length := by have := congrArg List.length hv; simpa using this
  refine ⟨fun r _ => hok r, ?_⟩
  rw [flat_val hp, hv, hl, ← flat_val hp]
  exact h.2

theorem pairwise_get {R : List (Lst α)} (h : R.Pairwise fun r s => ∀ g, blkOf r.a = some g → blkOf s.a ≠ some g) {j k : Nat} (hj : j < R.length) (hk : k < R.length) (hne : j ≠ k) : ∀ g, blkOf (R.getD j default).a = some g → blkOf (R.getD k default).a ≠ some g := by
  rw [List.pairwise_iff_getElem] at h
  intro g h1 h2
  rw [List.getD_eq_getElem?_getD, List.getElem?_eq_getElem hj] at h1
  rw [List.getD_eq_getElem?_getD, List.getElem?_eq_getElem hk] at h2
  rcases Nat.lt_or_ge j k with hlt | hge
  · exact h j k hj hk hlt g h1 h2
  · exact h k j hk hj (by omega) g h2 h1

/-- one list more is marked -/
theorem RowsAt.mark {K : Kd α} {KK : Kd (Lst α)} (hp : Kd.Pair K KK) (hok : ∀ r, KK.ok r) {mks : Nat → Nat → Nat → List α} (hl : ∀ i f n, (mks i f n).length = n) {w w' : World} {base : Nat} {a : Option Addr} {cap : Nat} {R : List (Lst α)} {i : Nat} (h : RowsAt K KK w base a cap (markTo mks i R)) (hi : i < R.length)
    (ho : Own K w' (R.getD i default).a (R.getD i default).cap (mks i 0 (R.getD i default).L.length)) (hc : Chg (blkOf (R.getD i default).a).toList w w') : RowsAt K KK w' base a cap (markTo mks (i + 1) R) := by
  have hgi : ∀ k, k < R.length → (markTo mks i R).getD k default ∈ markTo mks i R := fun k hk => getD_mem (by rw [markTo_length]; exact hk)
  have hai : ∀ m k, k < R.length → ((markTo mks m R).getD k default).a = (R.getD k default).a := fun m k hk => by rw [markTo_get mks m R hk]; split <;> rfl
  have hci : ∀ m k, k < R.length → ((markTo mks m R).getD k default).cap = (R.getD k default).cap := fun m k hk => by rw [markTo_get mks m R hk]; split <;> rfl
  have hget : ∀ m r, r ∈ markTo mks m R → ∃ k, k < R.length ∧ r = (markTo mks m R).getD k default := fun m r hr => by
    obtain ⟨k, hk, rfl⟩ := List.mem_iff_getElem.1 hr
    refine ⟨k, by rw [markTo_length] at hk; exact hk, ?_⟩
    rw [List.getD_eq_getElem?_getD, List.getElem?_eq_getElem hk]; rfl
  have hown : Own K w (R.getD i default).a (R.getD i default).cap (R.getD i default).L := by
    have := h.each _ (hgi i hi)
    rw [markTo_get mks i R hi, if_neg (by omega)] at this
    exact this
  have hlen : ∀ m k, k < R.length → ((markTo mks m R).getD k default).L.length = (R.getD k default).L.length := fun m k hk => by rw [markTo_get mks m R hk]; split <;> simp [hl]
  refine ⟨?_, fun r hr => ?_, ?_, h.new, fun r hr g hg => ?_, fun r hr => ?_⟩
  · refine Own.vals hp hok (h.row.chg hc (fun g hg hm => ?_)) ((markTo_vals hl _ _).trans (markTo_vals hl _ _).symm)
    obtain ⟨c1, b1⟩ := h.row.blk hg
    obtain ⟨c2, b2⟩ := hown.blk (g := g) (by simpa using hm)
    exact blk_ne b2 b1 hp.ne rfl
  · obtain ⟨k, hk, rfl⟩ := hget _ r hr
    by_cases hki : k = i
    · subst hki
      rw [markTo_get mks _ R hk, if_pos (by omega)]
      exact ho
    · have h1 := h.each _ (hgi k hk)
      have he : (markTo mks (i + 1) R).getD k default = (markTo mks i R).getD k default := by
        rw [markTo_get mks _ R hk, markTo_get mks _ R hk]
        by_cases h2 : k < i
        · rw [if_pos (by omega), if_pos h2]
        · rw [if_neg (by omega), if_neg h2]
      rw [he]
      refine h1.chg hc (fun g hg hm => ?_)
      have h3 := pairwise_get h.apart (j := k) (k := i) (by rw [markTo_length]; exact hk) (by rw [markTo_length]; exact hi) hki g hg
      rw [hai i i hi] at h3
      exact h3 (by simpa using hm)
  · rw [List.pairwise_iff_getElem]
    intro j k hj hk hjk g h1 h2
    have hj' : j < R.length := by rw [markTo_length] at hj; exact hj
    have hk' : k < R.length := by rw [markTo_length] at hk; exact hk
    have h3 := pairwise_get h.apart (j := j) (k := k) (by rw [markTo_length]; exact hj') (by rw [markTo_length]; exact hk') (by omega) g
    rw [hai i j hj', hai i k hk'] at h3
    have e1 := hai (i + 1) j hj'
    have e2 := hai (i + 1) k hk'
    rw [List.getD_eq_getElem?_getD, List.getElem?_eq_getElem hj] at e1
    rw [List.getD_eq_getElem?_getD, List.getElem?_eq_getElem hk] at e2
    simp only [Option.getD_some] at e1 e2
    rw [e1] at h1
    rw [e2] at h2
    exact h3 h1 h2
  · obtain ⟨k, hk, rfl⟩ := hget _ r hr
    rw [hai _ k hk] at hg
    exact h.news _ (hgi k hk) g (by rw [hai _ k hk]; exact hg)
  · obtain ⟨k, hk, rfl⟩ := hget _ r hr
    rw [hlen _ k hk]
    have := h.short _ (hgi k hk)
    rw [hlen _ k hk] at this
    exact this

/-- all marked: they can be read so -/
theorem RowsAt.marked [Inhabited α] {K : Kd α} {KK : Kd (Lst α)} (hp : Kd.Pair K KK) {mks : Nat → Nat → Nat → List α} (hl : ∀ i f n, (mks i f n).length = n) {w : World} {base : Nat} {a : Option Addr} {cap : Nat} {R : List (Lst α)} (h : RowsAt K KK w base a cap (markTo mks R.length R)) : Marked K KK mks w a (markTo mks R.length R) := by
  refine ⟨h.row.rd hp.kk, fun g hg _ => h.row.blk hg, fun k hk => ?_⟩
  have hk' : k < R.length := by rw [markTo_length] at hk; exact hk
  have h1 := h.each _ (getD_mem hk)
  refine ⟨?_, h1.rd hp.k, by have := h.short _ (getD_mem hk); omega, fun g hg => h1.blk hg⟩
  rw [markTo_get mks _ R hk', if_pos hk']
  simp only
  rw [hl]

/-- what an append leaves of another slice's row -/
theorem Rd.grown [Inhabited α] {K : Kd α} (hK : K.Law) {w w' : World} {a la : Option Addr} {L : List α} {n : Nat} (h : Rd K w a L) (hz : ∀ p : Addr, a = some p → p.off = 0) (hg : w.grownBy w' (blkOf la)) (hk : ∀ g, blkOf la = some g → (∃ cur, Blk w' g cur K.te) ∧ ∀ j, j < n * K.size → w'.cell? ⟨g, j, none⟩ = w.cell? ⟨g, j, none⟩) (hn : L.length ≤ n) : Rd K w' a L := by
  rcases h with rfl | ⟨b, o, rfl, h⟩
  · exact .inl rfl
  · have ho : o = 0 := hz _ rfl
    subst ho
    refine .inr ⟨b, 0, rfl, fun k hk' r hr => ?_⟩
    have h1 := h k hk' r hr
    by_cases hb : blkOf la = some b
    · rw [← h1]
      have h5 : (k + 1) * K.size ≤ n * K.size := Nat.mul_le_mul_right _ (by omega)
      rw [Nat.add_mul] at h5
      have := (hk b hb).2 (k * K.size + r) (by omega)
      rw [Nat.zero_add]
      exact this
    · rw [← h1]
      exact World.cell?_of_block (w := w) (hg.block b (cell_some hK hr h1) (fun e => hb e.symm))
end

end Go.Proofs.YteokjobkjmibfaaGreat
