/- Helpers for the walk of HistPlain: a block of images, slices of slices of numbers that came in, a copy of images. Conditions: those that each law names. -/
import Derived.Test.YteokjobkjmibfaaPp
namespace Go.Proofs.Yteokjobkjmibfaa
open Go.RowKit Go.Maps

/-! ### a block of images -/
def imgCells (La : List Img) : Array Value := (La.flatMap Img.three).toArray
theorem imgCells_get (La : List Img) (k r : Nat) (hk : k < La.length) (hr : r < 3) : (imgCells La)[k * 3 + r]? = (Img.three (La.getD k default))[r]? := by
  unfold imgCells
  rw [List.getElem?_toArray]
  exact flat_get Img.three 3 (fun _ => rfl) La k r hk hr
theorem imgCells_size (La : List Img) : (imgCells La).size = La.length * 3 := by
  unfold imgCells
  rw [List.size_toArray]
  exact flat_len Img.three 3 (fun _ => rfl) La
theorem imgCells_set (La : List Img) (i : Nat) (hi : i < La.length) (w : Img) :
    (((imgCells La).setIfInBounds (i * 3) (.int .i64 w.block)).setIfInBounds (i * 3 + 1) (.int .u64 w.ver)).setIfInBounds (i * 3 + 2) (.string w.data) = imgCells (La.set i w) := by
  apply Array.ext_getElem?
  intro j
  by_cases hj : j < La.length * 3
  · obtain ⟨k, r, hr, rfl⟩ : ∃ k r, r < 3 ∧ j = k * 3 + r := ⟨j / 3, j % 3, by omega, by omega⟩
    rw [imgCells_get (La.set i w) k r (by rw [List.length_set]; omega) hr, getD_set hi]
    by_cases e : i = k
    · subst e
      rw [if_pos rfl]
      have hsz := imgCells_size La
      match r, hr with
      | 0, _ => rw [Array.getElem?_setIfInBounds_ne (by omega), Array.getElem?_setIfInBounds_ne (by omega), Nat.add_zero, Array.getElem?_setIfInBounds_self_of_lt (by omega)]; rfl
      | 1, _ => rw [Array.getElem?_setIfInBounds_ne (by omega), Array.getElem?_setIfInBounds_self_of_lt (by simp; omega)]; rfl
      | 2, _ => rw [Array.getElem?_setIfInBounds_self_of_lt (by simp; omega)]; rfl
    · rw [if_neg e, Array.getElem?_setIfInBounds_ne (by omega), Array.getElem?_setIfInBounds_ne (by omega), Array.getElem?_setIfInBounds_ne (by omega)]
      exact imgCells_get La k r (by omega) hr
  · have h1 : (imgCells La).size ≤ j := by rw [imgCells_size]; omega
    rw [Array.getElem?_eq_none (by simpa using h1), Array.getElem?_eq_none (by rw [imgCells_size, List.length_set]; omega)]

theorem blk_img {w : World} {b : Nat} {La : List Img} (hB : Blk w b (imgCells La) 29) {k : Nat} (hk : k < La.length) :
    w.cell? ⟨b, k * 3, none⟩ = some (.int .i64 (La.getD k default).block) ∧ w.cell? ⟨b, k * 3 + 1, none⟩ = some (.int .u64 (La.getD k default).ver) ∧ w.cell? ⟨b, k * 3 + 2, none⟩ = some (.string (La.getD k default).data) :=
  ⟨hB.cell _ (imgCells_get La k 0 hk (by omega)), hB.cell _ (imgCells_get La k 1 hk (by omega)), hB.cell _ (imgCells_get La k 2 hk (by omega))⟩
theorem blk_imgs {w : World} {b : Nat} {La : List Img} (hB : Blk w b (imgCells La) 29) (hok : ∀ i ∈ La, i.ok) (hl : La.length ≤ 1000000) : ImgsAt w (some ⟨b, 0, none⟩) La :=
  ⟨hok, hl, .inr ⟨b, 0, rfl, fun k hk => by rw [Nat.zero_add]; exact blk_img hB hk⟩⟩
theorem blk_img_set {w : World} {b : Nat} {La : List Img} (hB : Blk w b (imgCells La) 29) (k : Nat) (hk : k < La.length) (i : Img) :
    Blk (((w.setCell ⟨b, k * 3, none⟩ (.int .i64 i.block)).setCell ⟨b, k * 3 + 1, none⟩ (.int .u64 i.ver)).setCell ⟨b, k * 3 + 2, none⟩ (.string i.data)) b (imgCells (La.set k i)) 29 := by
  rw [← imgCells_set La k hk i]
  exact ((hB.set _ _).set _ _).set _ _

def last0 : List Img := List.replicate 10 ⟨0, 0, ⟨#[]⟩⟩
theorem last0_length : last0.length = 10 := rfl
theorem make10 (w : World) : (Instr.makeSlice 25 (.int .i64 10) (.int .i64 10)).run Try.prog w = .ok (.slice (some ⟨w.heap.size, 0, none⟩) 10 10) (w.alloc (.cells (imgCells last0) 29)) := by kernel_rfl

theorem getD_set_ev {L : List Ev} {i b : Nat} (hi : i < L.length) (w : Ev) : (L.set i w).getD b default = if i = b then w else L.getD b default := by
  rw [List.getD_eq_getElem?_getD, List.getElem?_set]
  by_cases e : i = b
  · subst e; simp [hi]
  · simp [e, List.getD_eq_getElem?_getD]

/-! ### slices of slices of numbers that came in -/
def RowsAt (w : World) (a : Option Addr) (X : List (List Int)) : Prop :=
  (∀ l ∈ X, ∀ x ∈ l, wf64 x) ∧ (X = [] ∨ ∃ b o, a = some ⟨b, o, none⟩ ∧ ∀ r, r < X.length → ∃ ar cr, w.cell? ⟨b, o + r, none⟩ = some (.slice ar (X.getD r []).length cr) ∧
    (X.getD r [] = [] ∨ ∃ b' o', ar = some ⟨b', o', none⟩ ∧ ∀ i, i < (X.getD r []).length → w.cell? ⟨b', o' + i, none⟩ = some (.int .i64 ((X.getD r []).getD i 0))))

theorem RowsAt.chgN {w w' : World} {a : Option Addr} {X : List (List Int)} (h : RowsAt w a X) {S : List Nat} (hc : Chg S w w') (hn : ∀ g, g < w.heap.size → g ∉ S) : RowsAt w' a X := by
  obtain ⟨h1, h0 | ⟨b, o, rfl, h2⟩⟩ := h
  · exact ⟨h1, .inl h0⟩
  · refine ⟨h1, .inr ⟨b, o, rfl, fun r hr => ?_⟩⟩
    obtain ⟨ar, cr, hc1, h3⟩ := h2 r hr
    have hb := lt_of_cell hc1
    refine ⟨ar, cr, (hc.cell (p := ⟨b, o + r, none⟩) hb (hn _ hb)).trans hc1, ?_⟩
    rcases h3 with h3 | ⟨b', o', rfl, h4⟩
    · exact .inl h3
    · refine .inr ⟨b', o', rfl, fun i hi => ?_⟩
      have hc2 := h4 i hi
      have hb' := lt_of_cell hc2
      exact (hc.cell (p := ⟨b', o' + i, none⟩) hb' (hn _ hb')).trans hc2

theorem RowsAt.at_ {w : World} {a : Option Addr} {X : List (List Int)} (h : RowsAt w a X) {r : Nat} (hr : r < X.length) : ∃ b o ar cr, a = some ⟨b, o, none⟩ ∧ w.cell? ⟨b, o + r, none⟩ = some (.slice ar (X.getD r []).length cr) ∧
    (X.getD r [] = [] ∨ ∃ b' o', ar = some ⟨b', o', none⟩ ∧ ∀ i, i < (X.getD r []).length → w.cell? ⟨b', o' + i, none⟩ = some (.int .i64 ((X.getD r []).getD i 0))) := by
  obtain ⟨h1, rfl | ⟨b, o, rfl, h2⟩⟩ := h
  · simp at hr
  · obtain ⟨ar, cr, h3, h4⟩ := h2 r hr
    exact ⟨b, o, ar, cr, rfl, h3, h4⟩

/-! ### rows of images -/
/-- append of all the images of a row to nil -/
theorem appendMs_run (w : World) (ty : TypeId) {a : Option Addr} {cap : Nat} {L : List Img} (h : OwnM w a cap L) (hpos : 0 < L.length) (hl : L.length < 1000000) :
    ∃ a' cap' w', (Builtin.append_ #[25, 25] ty #[.slice none 0 0, .slice a L.length cap]).run Try.prog w = .ok (.slice a' L.length cap') w' ∧ OwnM w' a' cap' L ∧ w.grownBy w' none ∧ blkOf a' = some w.heap.size := by
  obtain ⟨i0, hi, hz0, hz1, hz2⟩ := info_parts info29
  obtain ⟨hok, hrow⟩ := h
  obtain ⟨g, c, he, _, _⟩ := hrow.form hpos
  obtain rfl : a = some ⟨g, 0, none⟩ := by injection he
  obtain ⟨v', w', hr, r1, r2, r3, r4⟩ := run_append_own_at (P := Try.prog) w 0 25 ty 29 i0 _ 3 32 Try.underlying25 hi hz0 hz1 hz2 rfl (by decide) _ _ _ (World.ownsRow_nil w 0 29 3) ⟨g, 0, none⟩ L.length cap (L.flatMap Img.three) (flat_len _ 3 (fun _ => rfl) L) (hrow.cells (g := g) rfl)
    (by
      intro u hu
      obtain ⟨e, _, he⟩ := List.mem_flatMap.1 hu
      simp only [List.mem_cons, List.not_mem_nil, or_false] at he
      rcases he with rfl | rfl | rfl <;> rfl) (by unfold maxLen; omega) (by omega) (Nat.zero_le _)
  rw [Nat.zero_add] at r1
  obtain ⟨a', cap', rfl, _⟩ := ownsRow_shape r1
  refine ⟨a', cap', w', hr, ⟨hok, by simpa using r1⟩, r2, ?_⟩
  rcases r4 with r4 | r4
  · rw [ownBlock_eq] at r4
    exfalso
    obtain ⟨g', c', he', _, _⟩ := r1.form hpos
    injection he' with he'
    rw [he'] at r4
    cases r4
  · rw [ownBlock_eq] at r4; exact r4

section
variable {ops : Array Oper} {rest : List Oper} {o : Oper} {a : Act} {Q : Exit → Act → World → Prop}
theorem wpList_appendMs (w : World) (hgd : o.guard = none) (s x : Operand) (ho : o.op = .call { callee := .builtin .append, args := #[s, x], argTypes := #[25, 25] })
    (hs : a.eval s = .slice none 0 0) (xa : Option Addr) (cap n : Nat) (L : List Img) (hn : L.length = n) (hx : a.eval x = .slice xa n cap) (hown : OwnM w xa cap L) (hpos : 0 < L.length) (hl : L.length < 1000000)
    (h : ∀ a' cap' w', OwnM w' a' cap' L → w.grownBy w' none → blkOf a' = some w.heap.size → wpList Try.prog ops Q rest (a.put o.dst (.slice a' n cap')) w') : wpList Try.prog ops Q (o :: rest) a w := by
  subst hn
  refine wpList_plain hgd fun K hK => ?_
  obtain ⟨a', cap', w', hr, h1, h2, h3⟩ := appendMs_run w o.type hown hpos hl
  unfold Oper.wp execOp
  simp only [ho, resolve, invoke, builtin, Sem.run_bind, Sem.run_pure, Result.andThen_ok, List.map_toArray, List.map_cons, List.map_nil, hs, hx, hr]
  exact hK _ _ (h a' cap' w' h1 h2 h3)
theorem wpList_appendMn (w : World) (hgd : o.guard = none) (s x : Operand) (ho : o.op = .call { callee := .builtin .append, args := #[s, x], argTypes := #[25, 25] })
    (sa : Option Addr) (cap n : Nat) (L : List Img) (hn : L.length = n) (hs : a.eval s = .slice sa n cap) (hown : OwnM w sa cap L) (hl : L.length < 1000000000)
    (g c : Nat) (e : Img) (he : e.ok) (hx : a.eval x = .slice (some ⟨g, 0, none⟩) 1 c) (hc : ∀ r, r < 3 → w.cell? ⟨g, r, none⟩ = (Img.three e)[r]?)
    (h : ∀ a' cap' w', OwnM w' a' cap' (L ++ [e]) → w.grownBy w' (blkOf sa) → (blkOf a' = blkOf sa ∨ blkOf a' = some w.heap.size) → wpList Try.prog ops Q rest (a.put o.dst (.slice a' (n + 1) cap')) w') : wpList Try.prog ops Q (o :: rest) a w := by
  subst hn
  exact wpList_appendM w hgd s x ho sa cap L hs hown hl g c e he hx hc h
end

section
variable {ops : Array Oper} {o : Oper} {a : Act} {Q : Exit → Act → World → Prop}
theorem step_appendMn {K : Act → World → Prop} {E : Prop} (w : World) (hgd : o.guard = none) (s x : Operand) (ho : o.op = .call { callee := .builtin .append, args := #[s, x], argTypes := #[25, 25] })
    (sa : Option Addr) (cap n : Nat) (L : List Img) (hn : L.length = n) (hs : a.eval s = .slice sa n cap) (hown : OwnM w sa cap L) (hl : L.length < 1000000000)
    (g c : Nat) (e : Img) (he : e.ok) (hx : a.eval x = .slice (some ⟨g, 0, none⟩) 1 c) (hc : ∀ r, r < 3 → w.cell? ⟨g, r, none⟩ = (Img.three e)[r]?)
    (h : ∀ a' cap' w', OwnM w' a' cap' (L ++ [e]) → w.grownBy w' (blkOf sa) → (blkOf a' = blkOf sa ∨ blkOf a' = some w.heap.size) → K (a.put o.dst (.slice a' (n + 1) cap')) w') :
    if Region.wanted o (yielded ops a.tmps) = true then Oper.wp Try.prog o a w K Q else E := by
  subst hn
  have hw : Region.wanted o (yielded ops a.tmps) = true := by simp [Region.wanted, hgd]
  rw [if_pos hw]
  obtain ⟨a', cap', w', hr, h1, h2, h3⟩ := appendM_run w o.type hown hl g c e he hc
  unfold Oper.wp execOp
  simp only [ho, resolve, invoke, builtin, Sem.run_bind, Sem.run_pure, Result.andThen_ok, List.map_toArray, List.map_cons, List.map_nil, hs, hx, hr]
  exact h a' cap' w' h1 h2 h3
end

/-- append of all the images of a row that can be read to nil -/
theorem appendMi_run (w : World) (ty : TypeId) {a : Option Addr} {cap : Nat} {L : List Img} (h : ImgsAt w a L) (hpos : 0 < L.length) (hl : L.length < 1000000) :
    ∃ a' cap' w', (Builtin.append_ #[25, 25] ty #[.slice none 0 0, .slice a L.length cap]).run Try.prog w = .ok (.slice a' L.length cap') w' ∧ OwnM w' a' cap' L ∧ w.grownBy w' none ∧ blkOf a' = some w.heap.size := by
  obtain ⟨i0, hi, hz0, hz1, hz2⟩ := info_parts info29
  obtain ⟨hok, _, rfl | ⟨g, o, rfl, hc⟩⟩ := h
  · simp at hpos
  obtain ⟨v', w', hr, r1, r2, r3, r4⟩ := run_append_own_at (P := Try.prog) w 0 25 ty 29 i0 _ 3 32 Try.underlying25 hi hz0 hz1 hz2 rfl (by decide) _ _ _ (World.ownsRow_nil w 0 29 3) ⟨g, o, none⟩ L.length cap (L.flatMap Img.three) (flat_len _ 3 (fun _ => rfl) L)
    (by
      intro j u hj
      have hjl : j < L.length * 3 := by have := (List.getElem?_eq_some_iff.1 hj).1; rwa [flat_len Img.three 3 (fun _ => rfl)] at this
      obtain ⟨k, r, hr, rfl⟩ : ∃ k r, r < 3 ∧ j = k * 3 + r := ⟨j / 3, j % 3, by omega, by omega⟩
      have hkl : k < L.length := by omega
      rw [flat_get Img.three 3 (fun _ => rfl) L k r hkl hr] at hj
      obtain ⟨c0, c1, c2⟩ := hc k hkl
      have hadd : (⟨g, o, none⟩ : Addr).add (k * 3 + r) = ⟨g, o + k * 3 + r, none⟩ := by
        simp only [Addr.add]
        split
        · rename_i h0; rw [show o + k * 3 + r = o by omega]
        · rw [Nat.add_assoc]
      rw [hadd]
      match r, hr with
      | 0, _ => rw [Nat.add_zero, c0]; exact hj
      | 1, _ => rw [c1]; exact hj
      | 2, _ => rw [c2]; exact hj)
    (by
      intro u hu
      obtain ⟨e, _, he⟩ := List.mem_flatMap.1 hu
      simp only [List.mem_cons, List.not_mem_nil, or_false] at he
      rcases he with rfl | rfl | rfl <;> rfl) (by unfold maxLen; omega) (by omega) (Nat.zero_le _)
  rw [Nat.zero_add] at r1
  obtain ⟨a', cap', rfl, _⟩ := ownsRow_shape r1
  refine ⟨a', cap', w', hr, ⟨hok, by simpa using r1⟩, r2, ?_⟩
  rcases r4 with r4 | r4
  · rw [ownBlock_eq] at r4
    exfalso
    obtain ⟨g', c', he', _, _⟩ := r1.form hpos
    injection he' with he'
    rw [he'] at r4
    cases r4
  · rw [ownBlock_eq] at r4; exact r4
section
variable {ops : Array Oper} {rest : List Oper} {o : Oper} {a : Act} {Q : Exit → Act → World → Prop}
set_option maxRecDepth 100000 in
theorem wpList_appendMi (w : World) (hgd : o.guard = none) (s x : Operand) (ho : o.op = .call { callee := .builtin .append, args := #[s, x], argTypes := #[25, 25] })
    (hs : a.eval s = .slice none 0 0) (xa : Option Addr) (cap n : Nat) (L : List Img) (hn : L.length = n) (hx : a.eval x = .slice xa n cap) (hown : ImgsAt w xa L) (hpos : 0 < L.length) (hl : L.length < 1000000)
    (h : ∀ a' cap' w', OwnM w' a' cap' L → w.grownBy w' none → blkOf a' = some w.heap.size → wpList Try.prog ops Q rest (a.put o.dst (.slice a' n cap')) w') : wpList Try.prog ops Q (o :: rest) a w := by
  subst hn
  refine wpList_plain hgd fun K hK => ?_
  obtain ⟨a', cap', w', hr, h1, h2, h3⟩ := appendMi_run (cap := cap) w o.type hown hpos hl
  unfold Oper.wp execOp
  simp only [ho, resolve, invoke, builtin, Sem.run_bind, Sem.run_pure, Result.andThen_ok, List.map_toArray, List.map_cons, List.map_nil, hs, hx, hr]
  exact hK _ _ (h a' cap' w' h1 h2 h3)
end

/-- an owned row of images, one image's bytes changed -/
theorem OwnM.setData {w : World} {g cap : Nat} {L : List Img} (h : OwnM w (some ⟨g, 0, none⟩) cap L) {k : Nat} (hk : k < L.length) {d : Str} (hd : d.size ≤ 1000000) :
    OwnM (w.setCell ⟨g, k * 3 + 2, none⟩ (.string d)) (some ⟨g, 0, none⟩) cap (L.set k { L.getD k default with data := d }) := by
  obtain ⟨hok, hlen, h0 | ⟨g', c, cur, he, hb, hg, h1, h2, h3, h4⟩⟩ := h
  · cases h0.1
  cases he
  refine ⟨fun i hi => ?_, ?_, .inr ⟨g, cap, cur.setIfInBounds (k * 3 + 2) (.string d), by rw [List.length_set], hb, (Blk.set hg (k * 3 + 2) (.string d)), by rw [List.length_set]; exact h1, h2, by simpa using h3, ?_⟩⟩
  · rcases List.mem_or_eq_of_mem_set hi with hi | rfl
    · exact hok i hi
    · have := hok _ (getD_mem hk); exact ⟨this.1, this.2.1, hd⟩
  · rw [flat_len Img.three 3 (fun _ => rfl)]
  · apply List.ext_getElem?
    intro j
    rw [List.length_set]
    by_cases hj : j < L.length * 3
    · obtain ⟨q, r, hr, rfl⟩ : ∃ q r, r < 3 ∧ j = q * 3 + r := ⟨j / 3, j % 3, by omega, by omega⟩
      rw [flat_get Img.three 3 (fun _ => rfl) (L.set k { L.getD k default with data := d }) q r (by rw [List.length_set]; omega) hr, List.getElem?_take_of_lt hj, getD_set hk]
      have h5 : cur[q * 3 + r]? = (Img.three (L.getD q default))[r]? := by
        rw [← flat_get Img.three 3 (fun _ => rfl) L q r (by omega) hr, ← h4, List.getElem?_take_of_lt hj]; simp
      rw [Array.getElem?_toList]
      by_cases e : k = q
      · subst e
        rw [if_pos rfl]
        match r, hr with
        | 0, _ => rw [Array.getElem?_setIfInBounds_ne (by omega)]; exact h5
        | 1, _ => rw [Array.getElem?_setIfInBounds_ne (by omega)]; exact h5
        | 2, _ => rw [Array.getElem?_setIfInBounds_self_of_lt (by omega)]; rfl
      · rw [if_neg e, Array.getElem?_setIfInBounds_ne (by omega)]; exact h5
    · rw [List.getElem?_eq_none (by simp; omega), List.getElem?_eq_none (by rw [flat_len Img.three 3 (fun _ => rfl), List.length_set]; omega)]

/-- an owned row of events, one event's reads changed -/
theorem OwnE.setReads {w : World} {g cap : Nat} {L : List Ev} (h : OwnE w (some ⟨g, 0, none⟩) cap L) {i : Nat} (hi : i < L.length) (ra : Option Addr) (rs : List Img) (rc : Nat) :
    OwnE (w.setCell ⟨g, i * 6 + 4, none⟩ (.slice ra rs.length rc)) (some ⟨g, 0, none⟩) cap (L.set i { L.getD i default with rs := rs, ra := ra, rc := rc }) := by
  obtain ⟨hok, h0 | ⟨g', cur, he, hB, h2, h3, h4, h5⟩⟩ := h
  · cases h0.1
  cases he
  refine ⟨fun e he => ?_, .inr ⟨g, cur.setIfInBounds (i * 6 + 4) (.slice ra rs.length rc), rfl, hB.set _ _, by rw [List.length_set]; exact h2, h3, by simpa using h4, fun j hj => ?_⟩⟩
  · rcases List.mem_or_eq_of_mem_set he with he | rfl
    · exact hok e he
    · have h9 := hok _ (getD_mem hi)
      exact ⟨h9.1, h9.2.1, h9.2.2.1, h9.2.2.2⟩
  · rw [List.length_set] at hj
    rw [getD_set_ev hi]
    obtain ⟨a0, a1, a2, a3, a4, a5⟩ := h5 j hj
    by_cases e : i = j
    · subst e
      rw [if_pos rfl]
      exact ⟨(Array.getElem?_setIfInBounds_ne (by omega)).trans a0, (Array.getElem?_setIfInBounds_ne (by omega)).trans a1, (Array.getElem?_setIfInBounds_ne (by omega)).trans a2, (Array.getElem?_setIfInBounds_ne (by omega)).trans a3, Array.getElem?_setIfInBounds_self_of_lt (by omega), (Array.getElem?_setIfInBounds_ne (by omega)).trans a5⟩
    · rw [if_neg e]
      exact ⟨(Array.getElem?_setIfInBounds_ne (by omega)).trans a0, (Array.getElem?_setIfInBounds_ne (by omega)).trans a1, (Array.getElem?_setIfInBounds_ne (by omega)).trans a2, (Array.getElem?_setIfInBounds_ne (by omega)).trans a3, (Array.getElem?_setIfInBounds_ne (by omega)).trans a4, (Array.getElem?_setIfInBounds_ne (by omega)).trans a5⟩

theorem OwnM.ty {w : World} {a : Option Addr} {cap : Nat} {L : List Img} (h : OwnM w a cap L) : Ty w a := fun g hg => (ownsRow_blk h.2 hg).2
theorem OwnM.at_ {w : World} {a : Option Addr} {cap : Nat} {L : List Img} (h : OwnM w a cap L) (hl : L.length ≤ 1000000) {k : Nat} (hk : k < L.length) : ∃ g, a = some ⟨g, 0, none⟩ ∧ w.cell? ⟨g, k * 3, none⟩ = some (.int .i64 (L.getD k default).block) ∧
    w.cell? ⟨g, k * 3 + 1, none⟩ = some (.int .u64 (L.getD k default).ver) ∧ w.cell? ⟨g, k * 3 + 2, none⟩ = some (.string (L.getD k default).data) ∧ w.frozen? ⟨g, k * 3 + 2, none⟩ = false := by
  obtain ⟨g, c, he, _, _⟩ := h.2.form (by omega)
  obtain rfl : a = some ⟨g, 0, none⟩ := by injection he
  obtain ⟨b, o, he2, c0, c1, c2, _⟩ := (h.imgs hl).at_ hk
  cases he2
  obtain ⟨_, cur, hB⟩ := ownsRow_blk h.2 (g := g) rfl
  exact ⟨g, rfl, by simpa using c0, by simpa using c1, by simpa using c2, hB.free _⟩

/-- a cell of an event's box, set -/
theorem three_at {w : World} {b : Nat} {e : Img} {cs : Array Value} (hB : Blk w b cs 29) (hcs : cs = e.three.toArray) : ∀ r, r < 3 → w.cell? ⟨b, r, none⟩ = e.three[r]? := fun r hr => by
  subst hcs
  have : (e.three.toArray)[r]? = e.three[r]? := by simp
  rw [← this]
  match r, hr with
  | 0, _ => exact hB.cell 0 rfl
  | 1, _ => exact hB.cell 1 rfl
  | 2, _ => exact hB.cell 2 rfl

/-- a slice of events that a call owns, all of which can be read, none of their images in the block bL -/
structure HoldX (w wr : World) (bL : Nat) (a : Option Addr) (cap : Nat) (L : List Ev) : Prop where
  own : OwnE wr a cap L
  new : ∀ g, blkOf a = some g → w.heap.size ≤ g
  good : ∀ e ∈ L, Good wr e ∧ blkOf e.ra ≠ some bL ∧ blkOf e.wa ≠ some bL
  chg : Chg [] w wr
  nil : L = [] → a = none ∧ cap = 0

theorem HoldX.start {w wr : World} (bL : Nat) (h : Chg [] w wr) : HoldX w wr bL none 0 [] := ⟨OwnE.nil _, by simp [blkOf], by simp, h, fun _ => ⟨rfl, rfl⟩⟩
theorem HoldX.chg0 {w wr wn : World} {bL : Nat} {a : Option Addr} {cap : Nat} {L : List Ev} (h : HoldX w wr bL a cap L) (hc : Chg [] wr wn) : HoldX w wn bL a cap L :=
  ⟨h.own.chg hc (by simp), h.new, fun e he => ⟨(h.good e he).1.chg0 hc, (h.good e he).2⟩, h.chg.step hc (by simp), h.nil⟩
theorem Good.chgB {w w' : World} {e : Ev} {bL : Nat} (h : Good w e) (hne : blkOf e.ra ≠ some bL ∧ blkOf e.wa ≠ some bL) (hc : Chg [bL] w w') : Good w' e := by
  have n1 : ∀ g, blkOf e.ra = some g → g ∉ [bL] := fun g hg hm => hne.1 (by simp at hm; rw [hg, hm])
  have n2 : ∀ g, blkOf e.wa = some g → g ∉ [bL] := fun g hg hm => hne.2 (by simp at hm; rw [hg, hm])
  exact ⟨⟨h.lies.1.chg hc n1, h.lies.2.chg hc n2⟩, fun g hg => by obtain ⟨cur, hB⟩ := h.tr g hg; exact ⟨cur, hB.chg hc (n1 g hg)⟩, fun g hg => by obtain ⟨cur, hB⟩ := h.tw g hg; exact ⟨cur, hB.chg hc (n2 g hg)⟩⟩
theorem HoldX.chgB {w wr wn : World} {bL : Nat} {a : Option Addr} {cap : Nat} {L : List Ev} {cs : Array Value} (h : HoldX w wr bL a cap L) (hB : Blk wr bL cs 29) (hb : w.heap.size ≤ bL) (hc : Chg [bL] wr wn) : HoldX w wn bL a cap L :=
  ⟨h.own.chg hc (fun g hg hm => by obtain ⟨cur, hE⟩ := h.own.blk hg; simp at hm; subst hm; exact blk_ne hB hE (by decide) rfl), h.new, fun e he => ⟨(h.good e he).1.chgB (h.good e he).2 hc, (h.good e he).2⟩, h.chg.step hc (by simp; omega), h.nil⟩
theorem HoldX.append {w wn w' : World} {bL : Nat} {a a' : Option Addr} {cap cap' : Nat} {L : List Ev} {e : Ev} (h : HoldX w wn bL a cap L) (he : Good wn e) (hne : blkOf e.ra ≠ some bL ∧ blkOf e.wa ≠ some bL) (ho : OwnE w' a' cap' (L ++ [e])) (hg : wn.grownBy w' (blkOf a)) (hat : blkOf a' = blkOf a ∨ blkOf a' = some wn.heap.size) : HoldX w w' bL a' cap' (L ++ [e]) := by
  refine ⟨ho, fun g hg' => ?_, fun x hx => ?_, h.chg.grown hg (fun k hk => .inr (h.new k hk)), fun hn => by simp at hn⟩
  · rcases hat with ha | ha
    · rw [ha] at hg'; exact h.new g hg'
    · rw [ha] at hg'; cases hg'; exact h.chg.size
  · rcases List.mem_append.1 hx with hx | hx
    · exact ⟨(h.good x hx).1.grown h.own hg, (h.good x hx).2⟩
    · rw [List.mem_singleton.1 hx]; exact ⟨he.grown h.own hg, hne⟩

theorem RowsAt.at2 {w : World} {b o : Nat} {X : List (List Int)} (h : RowsAt w (some ⟨b, o, none⟩) X) {r : Nat} (hr : r < X.length) : ∃ ar cr, w.cell? ⟨b, o + r, none⟩ = some (.slice ar (X.getD r []).length cr) ∧
    (X.getD r [] = [] ∨ ∃ b' o', ar = some ⟨b', o', none⟩ ∧ ∀ i, i < (X.getD r []).length → w.cell? ⟨b', o' + i, none⟩ = some (.int .i64 ((X.getD r []).getD i 0))) := by
  obtain ⟨b', o', ar, cr, he, h1, h2⟩ := h.at_ hr
  cases he
  exact ⟨ar, cr, h1, h2⟩

theorem LastOk.oks {f : Arr} {La : List Img} (h : LastOk f La) : ∀ i ∈ La, i.ok := fun i hi => by
  obtain ⟨k, hk, rfl⟩ := List.getElem_of_mem hi
  have hl := h.len
  have e : La[k] = La.getD k default := by rw [List.getD_eq_getElem?_getD, List.getElem?_eq_getElem hk]; rfl
  rw [e]
  obtain ⟨b1, b2⟩ := h.blk k (by omega)
  refine ⟨by rw [b1]; exact wf64_of (by omega) (by omega), by rw [b2]; exact wfu64_of (by simp) (by simp), by rw [(h.size k (by omega)).1]; omega⟩

theorem copy_facts {wr w5 : World} {a5 : Option Addr} {cap5 : Nat} {xs : List Img} {g j kk : Nat} {im : Img} {v : Value} (hO5 : OwnM w5 a5 cap5 xs) (hg5 : wr.grownBy w5 none) (hat5 : blkOf a5 = some wr.heap.size) (hk : kk < xs.length) (hl : xs.length ≤ 1000000) (him : xs.getD kk default = im)
    (hlg : g < wr.heap.size) (l4 : wr.cell? ⟨g, j, none⟩ = some v) (l4f : wr.frozen? ⟨g, j, none⟩ = false) :
    ∃ g5, a5 = some ⟨g5, 0, none⟩ ∧ g5 = wr.heap.size ∧ w5.cell? ⟨g5, kk * 3, none⟩ = some (.int .i64 im.block) ∧ w5.cell? ⟨g5, kk * 3 + 1, none⟩ = some (.int .u64 im.ver) ∧ w5.cell? ⟨g5, kk * 3 + 2, none⟩ = some (.string im.data) ∧
      w5.frozen? ⟨g5, kk * 3 + 2, none⟩ = false ∧ w5.cell? ⟨g, j, none⟩ = some v ∧ w5.frozen? ⟨g, j, none⟩ = false ∧ ¬ g = g5 ∧ ¬ g5 = g ∧ g < w5.heap.size ∧ g5 < w5.heap.size := by
  obtain ⟨g5, rfl, c0, c1, c2, c2f⟩ := hO5.at_ hl hk
  have e : g5 = wr.heap.size := Option.some.inj hat5
  have hcg : Chg [] wr w5 := (Chg.refl [] wr).grown hg5 (fun k hk => by cases hk)
  rw [him] at c0 c1 c2
  refine ⟨g5, rfl, e, c0, c1, c2, c2f, (hcg.cell (p := ⟨g, j, none⟩) hlg (by simp)).trans l4, (World.frozen?_of_block (a := ⟨g, j, none⟩) (hcg.block g hlg (by simp))).trans l4f, by omega, by omega, Nat.lt_of_lt_of_le hlg hcg.size, hO5.lt (g := g5) rfl⟩

/-- where the outer loop of HistPlain stands -/
structure OInv (w wr : World) (bL : Nat) (a : Option Addr) (cap : Nat) (L : List Ev) (La : List Img) : Prop where
  hold : HoldX w wr bL a cap L
  inv : PInv L La
  row : Blk wr bL (imgCells La) 29

end Go.Proofs.Yteokjobkjmibfaa
