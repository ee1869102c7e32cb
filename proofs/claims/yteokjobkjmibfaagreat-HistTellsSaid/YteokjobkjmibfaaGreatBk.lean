/- Rows of elements of any kind that a call owns: read, appended to, and what stays of the old row. Conditions: those that each law names. -/
import Derived.Test.YteokjobkjmibfaaGreatRf
namespace Go.Proofs.YteokjobkjmibfaaGreat
open Go.RowKit Go.Maps

/-- a kind of elements: its type, its slices' type, how many cells it has, and which -/
structure Kd (α : Type) where
  te : TypeId
  ts : TypeId
  size : Nat
  bytes : Nat
  z : Value
  cells : α → List Value
  ok : α → Prop

structure Kd.Law {α : Type} (K : Kd α) : Prop where
  len : ∀ a, (K.cells a).length = K.size
  pos : 0 < K.size
  und : Tryz.prog.underlying K.ts = some (.slice K.te)
  info : (Tryz.prog.info? K.te).map (fun i => (i.zero, i.size, i.bytes)) = some (some K.z, K.size, K.bytes)
  zsz : K.z.cells.size = K.size
  one : ∀ a, ∀ u ∈ K.cells a, u.oneCell' = true
  small : K.bytes ≤ 100

section
variable {α : Type}

/-- a slice that owns its row -/
def Own (K : Kd α) (w : World) (a : Option Addr) (cap : Nat) (L : List α) : Prop := (∀ x ∈ L, K.ok x) ∧ w.ownsRow 0 K.te K.size (.slice a L.length cap) L.length (L.flatMap K.cells)
/-- a slice that can be read -/
def Rd [Inhabited α] (K : Kd α) (w : World) (a : Option Addr) (L : List α) : Prop :=
  L = [] ∨ ∃ b o, a = some ⟨b, o, none⟩ ∧ ∀ k, k < L.length → ∀ r, r < K.size → w.cell? ⟨b, o + (k * K.size + r), none⟩ = (K.cells (L.getD k default))[r]?
/-- a slice that can be read, and what it looks like -/
def Src [Inhabited α] (K : Kd α) (w : World) (v : Value) (L : List α) : Prop :=
  (∀ x ∈ L, K.ok x) ∧ ((v = .slice none 0 0 ∧ L = []) ∨ ∃ p c, v = .slice (some p) L.length c ∧ (L = [] ∨ p.spot = none) ∧ ∀ k, k < L.length → ∀ r, r < K.size → w.cell? ⟨p.block, p.off + (k * K.size + r), none⟩ = (K.cells (L.getD k default))[r]?)

theorem Own.nil (K : Kd α) (w : World) : Own K w none 0 [] := ⟨by simp, World.ownsRow_nil _ _ _ _⟩
theorem Own.chg {K : Kd α} {w w' : World} {a : Option Addr} {cap : Nat} {L : List α} (h : Own K w a cap L) {S : List Nat} (hc : Chg S w w') (hn : ∀ g, blkOf a = some g → g ∉ S) : Own K w' a cap L :=
  ⟨h.1, ownsRow_chg h.2 hc hn⟩
theorem Own.blk {K : Kd α} {w : World} {a : Option Addr} {cap : Nat} {L : List α} (h : Own K w a cap L) {g : Nat} (hg : blkOf a = some g) : ∃ cur, Blk w g cur K.te := (ownsRow_blk h.2 hg).2
theorem Own.lt {K : Kd α} {w : World} {a : Option Addr} {cap : Nat} {L : List α} (h : Own K w a cap L) {g : Nat} (hg : blkOf a = some g) : g < w.heap.size := by obtain ⟨_, hB⟩ := h.blk hg; exact hB.lt

theorem Own.cells [Inhabited α] {K : Kd α} (hK : K.Law) {w : World} {g : Nat} {o : Nat} {cap : Nat} {L : List α} (h : Own K w (some ⟨g, o, none⟩) cap L) :
    o = 0 ∧ L.length ≤ cap ∧ ∀ k, k < L.length → ∀ r, r < K.size → w.cell? ⟨g, k * K.size + r, none⟩ = (K.cells (L.getD k default))[r]? := by
  rcases h.2.2 with ⟨he, _⟩ | ⟨g', c, cur, he, hb, hg, h1, h2, h3, h4⟩
  · cases he
  · cases he
    refine ⟨rfl, h1, fun k hk r hr => ?_⟩
    have hlt : k * K.size + r < L.length * K.size := by
      have h5 : (k + 1) * K.size ≤ L.length * K.size := Nat.mul_le_mul_right _ hk
      rw [Nat.add_mul] at h5
      omega
    rw [← flat_get K.cells K.size hK.len L k r hk hr, ← h4, List.getElem?_take_of_lt hlt]
    simp [World.cell?, hg]

theorem Own.none_ {K : Kd α} {w : World} {cap : Nat} {L : List α} (h : Own K w none cap L) : L = [] ∧ cap = 0 := by
  rcases h.2.2 with ⟨he, h0⟩ | ⟨g', c, cur, he, _⟩
  · injection he with e1 e2 e3
    exact ⟨List.eq_nil_of_length_eq_zero h0, e3⟩
  · cases he
theorem Own.shape {K : Kd α} {w : World} {a : Option Addr} {cap : Nat} {L : List α} (h : Own K w a cap L) : (a = none ∧ cap = 0 ∧ L = []) ∨ ∃ g, a = some ⟨g, 0, none⟩ ∧ L.length ≤ cap := by
  rcases h.2.2 with ⟨he, h0⟩ | ⟨g', c, cur, he, hb, hg, h1, _⟩
  · injection he with e1 e2 e3
    exact .inl ⟨e1, e3, List.eq_nil_of_length_eq_zero h0⟩
  · cases he; exact .inr ⟨g', rfl, h1⟩

theorem Own.src [Inhabited α] {K : Kd α} (hK : K.Law) {w : World} {a : Option Addr} {cap : Nat} {L : List α} (h : Own K w a cap L) : Src K w (.slice a L.length cap) L := by
  refine ⟨h.1, ?_⟩
  rcases h.shape with ⟨rfl, rfl, rfl⟩ | ⟨g, rfl, _⟩
  · exact .inl ⟨rfl, rfl⟩
  · exact .inr ⟨⟨g, 0, none⟩, cap, rfl, .inr rfl, fun k hk r hr => by simp only; rw [Nat.zero_add]; exact (h.cells hK).2.2 k hk r hr⟩
theorem Own.rd [Inhabited α] {K : Kd α} (hK : K.Law) {w : World} {a : Option Addr} {cap : Nat} {L : List α} (h : Own K w a cap L) : Rd K w a L := by
  rcases h.shape with ⟨rfl, rfl, rfl⟩ | ⟨g, rfl, _⟩
  · exact .inl rfl
  · exact .inr ⟨g, 0, rfl, fun k hk r hr => by rw [Nat.zero_add]; exact (h.cells hK).2.2 k hk r hr⟩

theorem cell_some {K : Kd α} (hK : K.Law) {w : World} {p : Addr} {x : α} {r : Nat} (hr : r < K.size) (h : w.cell? p = (K.cells x)[r]?) : p.block < w.heap.size := by
  rw [List.getElem?_eq_getElem (by rw [hK.len]; exact hr)] at h
  exact lt_of_cell h

theorem Rd.chg [Inhabited α] {K : Kd α} (hK : K.Law) {w w' : World} {a : Option Addr} {L : List α} (h : Rd K w a L) {S : List Nat} (hc : Chg S w w') (hn : ∀ g, blkOf a = some g → g ∉ S) : Rd K w' a L := by
  rcases h with rfl | ⟨b, o, rfl, h⟩
  · exact .inl rfl
  · refine .inr ⟨b, o, rfl, fun k hk r hr => ?_⟩
    have := h k hk r hr
    rw [← this]
    exact hc.cell (p := ⟨b, o + (k * K.size + r), none⟩) (cell_some hK hr this) (hn b rfl)
theorem Rd.chg0 [Inhabited α] {K : Kd α} (hK : K.Law) {w w' : World} {a : Option Addr} {L : List α} (h : Rd K w a L) (hc : Chg [] w w') : Rd K w' a L := h.chg hK hc (by simp)
/-- it can be read while the cells stay -/
theorem Rd.keep [Inhabited α] {K : Kd α} {w w' : World} {a : Option Addr} {L : List α} (h : Rd K w a L) (hc : ∀ g, blkOf a = some g → ∀ o, (∀ p : Option Addr, p = a → p = some ⟨g, o, none⟩ → ∀ j, j < L.length * K.size → w'.cell? ⟨g, o + j, none⟩ = w.cell? ⟨g, o + j, none⟩)) : Rd K w' a L := by
  rcases h with rfl | ⟨b, o, rfl, h⟩
  · exact .inl rfl
  · refine .inr ⟨b, o, rfl, fun k hk r hr => ?_⟩
    rw [← h k hk r hr]
    refine hc b rfl o _ rfl rfl _ ?_
    have h5 : (k + 1) * K.size ≤ L.length * K.size := Nat.mul_le_mul_right _ hk
    rw [Nat.add_mul] at h5
    omega
theorem Rd.lt [Inhabited α] {K : Kd α} (hK : K.Law) {w : World} {a : Option Addr} {L : List α} (h : Rd K w a L) (hl : 0 < L.length) {g : Nat} (hg : blkOf a = some g) : g < w.heap.size := by
  rcases h with rfl | ⟨b, o, rfl, h⟩
  · simp at hl
  · cases hg
    exact cell_some (p := ⟨b, o + (0 * K.size + 0), none⟩) hK hK.pos (h 0 hl 0 hK.pos)
theorem Rd.chgN [Inhabited α] {K : Kd α} (hK : K.Law) {w w' : World} {a : Option Addr} {L : List α} (h : Rd K w a L) {S : List Nat} (hc : Chg S w w') (hn : ∀ g, g < w.heap.size → g ∉ S) : Rd K w' a L := by
  rcases h with rfl | ⟨b, o, rfl, h⟩
  · exact .inl rfl
  · refine .inr ⟨b, o, rfl, fun k hk r hr => ?_⟩
    have := h k hk r hr
    rw [← this]
    exact hc.cell (p := ⟨b, o + (k * K.size + r), none⟩) (cell_some hK hr this) (hn _ (cell_some hK hr this))

set_option maxRecDepth 1000000 in
theorem append_run [Inhabited α] (K : Kd α) (hK : K.Law) (w : World) (ty : TypeId) {a : Option Addr} {cap : Nat} {L X : List α} {v : Value} (h : Own K w a cap L) (hx : Src K w v X) (hl : L.length < 1000000000) (hl2 : X.length < 1000000000) :
    ∃ a' cap' w', (Builtin.append_ #[K.ts, K.ts] ty #[.slice a L.length cap, v]).run Tryz.prog w = .ok (.slice a' (L.length + X.length) cap') w' ∧ Own K w' a' cap' (L ++ X) ∧ w.grownBy w' (blkOf a) ∧ (blkOf a' = blkOf a ∨ blkOf a' = some w.heap.size) ∧
      ∀ g, blkOf a = some g → (∃ cur, Blk w' g cur K.te) ∧ ∀ j, j < L.length * K.size → w'.cell? ⟨g, j, none⟩ = w.cell? ⟨g, j, none⟩ := by
  obtain ⟨i0, hi, hz0, hz1, hz2⟩ := info_parts hK.info
  obtain ⟨hok, ⟨rfl, rfl⟩ | ⟨p, c, rfl, hsp, hc⟩⟩ := hx
  · exact ⟨a, cap, w, run_append_owned_none (P := Tryz.prog) w 0 K.ts ty K.te i0 K.size hK.und hi _ _ _ h.2, by simpa using h, World.grownBy.refl _ _, .inl rfl, fun _ hg => ⟨(ownsRow_blk h.2 hg).2, fun _ _ => rfl⟩⟩
  · have hnl : (X.flatMap K.cells).length = X.length * K.size := flat_len _ _ hK.len X
    have hcells : ∀ j u, (X.flatMap K.cells)[j]? = some u → w.cell? (p.add j) = some u := by
      intro j u hj
      have hsp' : p.spot = none := by
        rcases hsp with h | h
        · subst h; simp at hj
        · exact h
      obtain ⟨g, o, sp⟩ := p
      simp only at hsp' hc
      subst hsp'
      have hjl : j < X.length * K.size := by have := (List.getElem?_eq_some_iff.1 hj).1; rwa [hnl] at this
      have hp := hK.pos
      have hdm := Nat.div_add_mod j K.size
      have hmod : j % K.size < K.size := Nat.mod_lt _ hp
      have hdl : j / K.size < X.length := by rw [Nat.div_lt_iff_lt_mul hp]; exact hjl
      have hje : j = j / K.size * K.size + j % K.size := by rw [Nat.mul_comm]; exact hdm.symm
      rw [hje] at hj
      rw [flat_get K.cells K.size hK.len X _ _ hdl hmod] at hj
      have hadd : (⟨g, o, none⟩ : Addr).add j = ⟨g, o + j, none⟩ := by
        simp only [Addr.add]
        split
        · rename_i h0; rw [h0, Nat.add_zero]
        · rfl
      rw [hadd, hje, hc _ hdl _ hmod]
      exact hj
    have hone : ∀ u ∈ X.flatMap K.cells, u.oneCell' = true := by
      intro u hu
      obtain ⟨e, _, he⟩ := List.mem_flatMap.1 hu
      exact hK.one e u he
    have hby : (L.length + X.length) * K.bytes ≤ 140737488355328 := Nat.le_trans (Nat.mul_le_mul_left _ hK.small) (by omega)
    have h63 : L.length + X.length ≤ maxLen := by unfold maxLen; omega
    obtain ⟨v', w', hr, r1, r2, r3, r4⟩ := run_append_own_at (P := Tryz.prog) w 0 K.ts ty K.te i0 K.z K.size K.bytes hK.und hi hz0 hz1 hz2 hK.zsz hK.pos _ _ _ h.2 p X.length c (X.flatMap K.cells) hnl hcells hone h63 hby (Nat.zero_le _)
    obtain ⟨a', cap', rfl, _⟩ := ownsRow_shape r1
    refine ⟨a', cap', w', hr, ⟨fun x hx => ?_, ?_⟩, by rw [ownBlock_eq] at r2; exact r2, by rw [ownBlock_eq, ownBlock_eq] at r4; exact r4, ?_⟩
    · rcases List.mem_append.1 hx with hx | hx
      · exact h.1 x hx
      · exact hok x hx
    · rw [List.length_append, List.flatMap_append]
      exact r1
    · intro g0 hg0
      have HBY := Lib.hid hby
      have H63 := Lib.hid h63
      clear hby h63 r1 r2 r3 r4
      rcases h.2.2 with ⟨he, _⟩ | ⟨g1, c1, cur, he, hb, hg, h1, h2, h3, h4⟩
      · injection he with e1
        rw [e1] at hg0; cases hg0
      · cases he
        cases hg0
        by_cases hroom : L.length + X.length ≤ cap
        · have hfit : L.length * i0.size + (X.flatMap K.cells).length ≤ cur.size := by rw [hz1, hnl, h3, ← Nat.add_mul]; exact Nat.mul_le_mul_right _ hroom
          have hr2 := run_append_room (P := Tryz.prog) w K.ts ty K.te i0 hK.und hi g1 L.length cap cur hg p X.length c (X.flatMap K.cells) (by rw [hnl, hz1]) hcells hone hroom hfit
          rw [hr] at hr2
          injection hr2 with _ hw
          rw [hz1] at hw
          refine ⟨⟨_, by rw [hw]; exact setRow_heap w g1 cur _ K.te _ hg⟩, fun j hj => ?_⟩
          rw [hw, cell_setRow_same _ _ _ _ _ _ _ hg]
          simp only [World.cell?, hg, List.getElem?_toArray]
          have hle : L.length * K.size ≤ cur.size := by rw [h3]; exact Nat.mul_le_mul_right _ h1
          rw [List.append_assoc, List.getElem?_append_left (by rw [List.length_take, Array.length_toList]; exact Nat.lt_min.2 ⟨hj, Nat.lt_of_lt_of_le hj hle⟩), List.getElem?_take_of_lt hj, Array.getElem?_toList]
          rfl
        · have holds := World.ownsRow.cells (g := g1) h.2 rfl
          have hr2 := run_append_grow (P := Tryz.prog) w K.ts ty K.te i0 K.z hK.und hi hz0 ⟨g1, 0, none⟩ L.length cap (L.flatMap K.cells) (by rw [flat_len _ _ hK.len, hz1]) holds p X.length c (X.flatMap K.cells) (by rw [hnl, hz1]) hcells (by omega) (by have h63 := H63.out; unfold maxLen at h63; omega) (growslice_fits (by omega) (by rw [hz2]; exact HBY.out))
          rw [hr] at hr2
          injection hr2 with _ hw
          have hb5 := Below.heap_alloc w.drew (.cells ((L.flatMap K.cells).toArray ++ (X.flatMap K.cells).toArray ++ Builtin.zeroCells K.z.cells (grownCap w (L.length + X.length) cap K.te - (L.length + X.length))) K.te) _ (lt_of_block hg)
          rw [hw]
          exact ⟨⟨cur, hb5.trans hg⟩, fun j hj => World.cell?_of_block (w := w) hb5⟩
end

section
variable {α : Type} [Inhabited α] {ops : Array Oper} {rest : List Oper} {o : Oper} {a : Act} {Q : Exit → Act → World → Prop}
theorem wpList_appendK (K : Kd α) (hK : K.Law) (w : World) (hgd : o.guard = none) (s x : Operand) (ho : o.op = .call { callee := .builtin .append, args := #[s, x], argTypes := #[K.ts, K.ts] })
    (sa : Option Addr) (cap n : Nat) (L : List α) (hn : L.length = n) (hs : a.eval s = .slice sa n cap) (hown : Own K w sa cap L) (hl : L.length < 1000000000)
    (v : Value) (X : List α) (p : Nat) (hx : a.eval x = v) (hX : Src K w v X) (hl2 : X.length < 1000000000) (hp : n + X.length = p)
    (h : ∀ a' cap' w', Own K w' a' cap' (L ++ X) → w.grownBy w' (blkOf sa) → (blkOf a' = blkOf sa ∨ blkOf a' = some w.heap.size) → (∀ g, blkOf sa = some g → (∃ cur, Blk w' g cur K.te) ∧ ∀ j, j < n * K.size → w'.cell? ⟨g, j, none⟩ = w.cell? ⟨g, j, none⟩) → wpList Tryz.prog ops Q rest (a.put o.dst (.slice a' p cap')) w') :
    wpList Tryz.prog ops Q (o :: rest) a w := by
  subst hn
  subst hp
  refine wpList_plain hgd fun K' hK' => ?_
  obtain ⟨a', cap', w', hr, h1, h2, h3, h4⟩ := append_run K hK w o.type hown hX hl hl2
  unfold Oper.wp execOp
  simp only [ho, resolve, invoke, builtin, Sem.run_bind, Sem.run_pure, Result.andThen_ok, List.map_toArray, List.map_cons, List.map_nil, hs, hx, hr]
  exact hK' _ _ (h a' cap' w' h1 h2 h3 h4)
theorem step_appendK {K' : Act → World → Prop} {E : Prop} (K : Kd α) (hK : K.Law) (w : World) (hgd : o.guard = none) (s x : Operand) (ho : o.op = .call { callee := .builtin .append, args := #[s, x], argTypes := #[K.ts, K.ts] })
    (sa : Option Addr) (cap n : Nat) (L : List α) (hn : L.length = n) (hs : a.eval s = .slice sa n cap) (hown : Own K w sa cap L) (hl : L.length < 1000000000)
    (v : Value) (X : List α) (p : Nat) (hx : a.eval x = v) (hX : Src K w v X) (hl2 : X.length < 1000000000) (hp : n + X.length = p)
    (h : ∀ a' cap' w', Own K w' a' cap' (L ++ X) → w.grownBy w' (blkOf sa) → (blkOf a' = blkOf sa ∨ blkOf a' = some w.heap.size) → (∀ g, blkOf sa = some g → (∃ cur, Blk w' g cur K.te) ∧ ∀ j, j < n * K.size → w'.cell? ⟨g, j, none⟩ = w.cell? ⟨g, j, none⟩) → K' (a.put o.dst (.slice a' p cap')) w') :
    if Region.wanted o (yielded ops a.tmps) = true then Oper.wp Tryz.prog o a w K' Q else E := by
  subst hn
  subst hp
  have hw : Region.wanted o (yielded ops a.tmps) = true := by simp [Region.wanted, hgd]
  rw [if_pos hw]
  obtain ⟨a', cap', w', hr, h1, h2, h3, h4⟩ := append_run K hK w o.type hown hX hl hl2
  unfold Oper.wp execOp
  simp only [ho, resolve, invoke, builtin, Sem.run_bind, Sem.run_pure, Result.andThen_ok, List.map_toArray, List.map_cons, List.map_nil, hs, hx, hr]
  exact h a' cap' w' h1 h2 h3 h4
end

/-! ### lists of lists -/
structure Lst (α : Type) where
  a : Option Addr
  cap : Nat
  L : List α
instance {α : Type} : Inhabited (Lst α) := ⟨⟨none, 0, []⟩⟩
abbrev Lst.val {α : Type} (r : Lst α) : Value := .slice r.a r.L.length r.cap

abbrev kN : Kd Int := { te := 64, ts := 23, size := 1, bytes := 8, z := .int .u64 0, cells := fun x => [.int .u64 x], ok := wfu64 }
abbrev kM : Kd Img := { te := 69, ts := 53, size := 3, bytes := 32, z := .agg #[.int .i64 0, .int .u64 0, .string ⟨#[]⟩], cells := Img.three, ok := Img.ok }
abbrev kNN : Kd (Lst Int) := { te := 23, ts := 29, size := 1, bytes := 24, z := .slice none 0 0, cells := fun r => [r.val], ok := fun _ => True }
abbrev kMM : Kd (Lst Img) := { te := 53, ts := 32, size := 1, bytes := 24, z := .slice none 0 0, cells := fun r => [r.val], ok := fun _ => True }
theorem info53 : (Tryz.prog.info? 53).map (fun i => (i.zero, i.size, i.bytes)) = some (some (.slice none 0 0), 1, 24) := by kernel_rfl
theorem lawN : kN.Law := ⟨fun _ => rfl, by decide, Tryz.underlying23, info27, by rfl, by intro a u hu; simp only [List.mem_cons, List.not_mem_nil, or_false] at hu; subst hu; rfl, by decide⟩
theorem lawM : kM.Law := ⟨fun _ => rfl, by decide, Tryz.underlying53, info29, by rfl, by intro a u hu; simp only [List.mem_cons, List.not_mem_nil, or_false] at hu; rcases hu with rfl | rfl | rfl <;> rfl, by decide⟩
theorem lawNN : kNN.Law := ⟨fun _ => rfl, by decide, Tryz.underlying29, info43, by rfl, by intro a u hu; simp only [List.mem_cons, List.not_mem_nil, or_false] at hu; subst hu; rfl, by decide⟩
theorem lawMM : kMM.Law := ⟨fun _ => rfl, by decide, Tryz.underlying32, info53, by rfl, by intro a u hu; simp only [List.mem_cons, List.not_mem_nil, or_false] at hu; subst hu; rfl, by decide⟩

theorem flat_one (C : List Int) : C.flatMap (fun x => [Value.int .u64 x]) = C.map (Value.int .u64) := by
  induction C with
  | nil => rfl
  | cons x r ih => rw [List.flatMap_cons, ih]; rfl
theorem OwnU.own {w : World} {base : Nat} {a : Option Addr} {cap : Nat} {C : List Int} (h : OwnU w base a cap C) : Own kN w a cap C := by
  refine ⟨h.1, ?_⟩
  rw [flat_one]
  exact (h.mono (Nat.zero_le _)).2
theorem OwnM.own {w : World} {a : Option Addr} {cap : Nat} {L : List Img} (h : OwnM w a cap L) : Own kM w a cap L := h
theorem NumsAt.rd {w : World} {a : Option Addr} {C : List Int} (h : NumsAt w a C) : Rd kN w a C := by
  obtain ⟨h1, h2, rfl | ⟨b, o, rfl, h3⟩⟩ := h
  · exact .inl rfl
  · refine .inr ⟨b, o, rfl, fun k hk r hr => ?_⟩
    obtain rfl : r = 0 := by simpa using hr
    show w.cell? ⟨b, o + (k * 1 + 0), none⟩ = some (.int .u64 (C.getD k default))
    rw [Nat.mul_one, Nat.add_zero]
    exact h3 k hk
theorem ImgsAt.rd {w : World} {a : Option Addr} {L : List Img} (h : ImgsAt w a L) : Rd kM w a L := by
  obtain ⟨h1, h2, rfl | ⟨b, o, rfl, h3⟩⟩ := h
  · exact .inl rfl
  · refine .inr ⟨b, o, rfl, fun k hk r hr => ?_⟩
    obtain ⟨c0, c1, c2⟩ := h3 k hk
    match r, hr with
    | 0, _ => exact c0
    | 1, _ => exact c1
    | 2, _ => exact c2

end Go.Proofs.YteokjobkjmibfaaGreat
