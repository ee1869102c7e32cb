/- Rows of events and of images that a call owns: appended to, and read. Condition: at most a million elements. -/
import Derived.Test.YteokjobkjmibfaaGreatE
import Derived.Maps.AppendAt
import Derived.Deep.QuietTactic
import Derived.Deep.RegionLaw
namespace Go.Proofs.YteokjobkjmibfaaGreat
open Go.RowKit Go.Maps

theorem flat_len {α : Type} (c : α → List Value) (n : Nat) (hc : ∀ a, (c a).length = n) : ∀ L : List α, (L.flatMap c).length = L.length * n
  | [] => by simp
  | a :: r => by simp only [List.flatMap_cons, List.length_append, hc, flat_len c n hc r, List.length_cons]; rw [Nat.add_mul]; omega

theorem flat_get {α : Type} [Inhabited α] (c : α → List Value) (n : Nat) (hc : ∀ a, (c a).length = n) : ∀ (L : List α) (k r : Nat), k < L.length → r < n → (L.flatMap c)[k * n + r]? = (c (L.getD k default))[r]?
  | [], k, r, hk, _ => by simp at hk
  | a :: l, 0, r, _, hr => by
    rw [List.flatMap_cons, Nat.zero_mul, Nat.zero_add, List.getElem?_append_left (by rw [hc]; exact hr)]
    rfl
  | a :: l, k + 1, r, hk, hr => by
    have h1 := flat_get c n hc l k r (by simpa using hk) hr
    have h2 : (k + 1) * n + r = n + (k * n + r) := by rw [Nat.add_mul]; omega
    rw [List.flatMap_cons, h2, List.getElem?_append_right (by rw [hc]; omega), hc, show n + (k * n + r) - n = k * n + r by omega, h1]
    rfl

abbrev Ev.six (e : Ev) : List Value := [.int .i64 e.kind, .int .i64 e.node, .int .u64 e.epoch, .int .u64 e.lsn, .slice e.ra e.rs.length e.rc, .slice e.wa e.ws.length e.wc]
abbrev Img.three (i : Img) : List Value := [.int .i64 i.block, .int .u64 i.ver, .string i.data]

theorem flat_at {L : List Ev} {cur : Array Value} (h : cur.toList.take (L.length * 6) = L.flatMap Ev.six) : ∀ k, k < L.length → EvAt cur k (L.getD k default) := fun k hk => by
  have g : ∀ r, r < 6 → cur[k * 6 + r]? = (Ev.six (L.getD k default))[r]? := fun r hr => by
    rw [← flat_get Ev.six 6 (fun _ => rfl) L k r hk hr, ← h, List.getElem?_take_of_lt (by omega)]
    simp
  exact ⟨g 0 (by omega), g 1 (by omega), g 2 (by omega), g 3 (by omega), g 4 (by omega), g 5 (by omega)⟩

theorem at_flat {L : List Ev} {cur : Array Value} (hs : L.length * 6 ≤ cur.size) (h : ∀ k, k < L.length → EvAt cur k (L.getD k default)) : cur.toList.take (L.length * 6) = L.flatMap Ev.six := by
  apply List.ext_getElem?
  intro i
  by_cases hi : i < L.length * 6
  · obtain ⟨k, r, hr, rfl⟩ : ∃ k r, r < 6 ∧ i = k * 6 + r := ⟨i / 6, i % 6, by omega, by omega⟩
    rw [flat_get Ev.six 6 (fun _ => rfl) L k r (by omega) hr, List.getElem?_take_of_lt hi]
    obtain ⟨h0, h1, h2, h3, h4, h5⟩ := h k (by omega)
    rw [Array.getElem?_toList]
    match r, hr with
    | 0, _ => exact h0
    | 1, _ => exact h1
    | 2, _ => exact h2
    | 3, _ => exact h3
    | 4, _ => exact h4
    | 5, _ => exact h5
  · rw [List.getElem?_eq_none (by simp; omega), List.getElem?_eq_none (by rw [flat_len Ev.six 6 (fun _ => rfl)]; omega)]

theorem OwnE.toRow {w : World} {a : Option Addr} {cap : Nat} {L : List Ev} (h : OwnE w a cap L) : w.ownsRow 0 66 6 (.slice a L.length cap) L.length (L.flatMap Ev.six) := by
  obtain ⟨h1, ⟨rfl, rfl, rfl⟩ | ⟨g, cur, rfl, hB, h2, h3, h4, h5⟩⟩ := h
  · exact World.ownsRow_nil _ _ _ _
  · exact ⟨flat_len _ 6 (fun _ => rfl) L, .inr ⟨g, cap, cur, rfl, Nat.zero_le _, hB, h2, h3, h4, at_flat (by omega) h5⟩⟩

theorem OwnE.ofRow {w : World} {a : Option Addr} {cap : Nat} {L : List Ev} (hok : ∀ e ∈ L, e.ok) (h : w.ownsRow 0 66 6 (.slice a L.length cap) L.length (L.flatMap Ev.six)) : OwnE w a cap L := by
  refine ⟨hok, ?_⟩
  rcases h.2 with ⟨he, h0⟩ | ⟨g, c, cur, he, hb, hg, h1, h2, h3, h4⟩
  · have hl : L = [] := List.eq_nil_of_length_eq_zero h0
    subst hl
    cases he; exact .inl ⟨rfl, rfl, rfl⟩
  · cases he; exact .inr ⟨g, cur, rfl, hg, h1, h2, h3, flat_at h4⟩

theorem ownsRow_shape {w : World} {base : Nat} {e : TypeId} {size : Nat} {v : Value} {n : Nat} {xs : List Value} (h : w.ownsRow base e size v n xs) : ∃ a cap, v = .slice a n cap ∧ ∀ b, a = some b → base ≤ b.block := by
  rcases h.2 with ⟨rfl, rfl⟩ | ⟨g, cap, cur, rfl, hb, _⟩
  · exact ⟨none, 0, rfl, fun b hb => by cases hb⟩
  · exact ⟨_, cap, rfl, fun b hb' => by cases hb'; exact hb⟩
theorem ownBlock_eq (a : Option Addr) (n c : Nat) : (Value.slice a n c).ownBlock = blkOf a := by cases a <;> rfl

theorem info32 : (Tryz.prog.info? 66).map (fun i => (i.zero, i.size, i.bytes)) = some (some (.agg #[.int .i64 0, .int .i64 0, .int .u64 0, .int .u64 0, .slice none 0 0, .slice none 0 0]), 6, 80) := by kernel_rfl
theorem info29 : (Tryz.prog.info? 69).map (fun i => (i.zero, i.size, i.bytes)) = some (some (.agg #[.int .i64 0, .int .u64 0, .string ⟨#[]⟩]), 3, 32) := by kernel_rfl

/-- append of one event -/
theorem appendE_run (w : World) (ty : TypeId) {a : Option Addr} {cap : Nat} {L : List Ev} (h : OwnE w a cap L) (hl : L.length < 1000000) (g c : Nat) (e : Ev) (he : e.ok) (hc : ∀ r, r < 6 → w.cell? ⟨g, r, none⟩ = (Ev.six e)[r]?) :
    ∃ a' cap' w', (Builtin.append_ #[22, 22] ty #[.slice a L.length cap, .slice (some ⟨g, 0, none⟩) 1 c]).run Tryz.prog w = .ok (.slice a' (L.length + 1) cap') w' ∧ OwnE w' a' cap' (L ++ [e]) ∧ w.grownBy w' (blkOf a) ∧ (blkOf a' = blkOf a ∨ blkOf a' = some w.heap.size) := by
  obtain ⟨i0, hi, hz0, hz1, hz2⟩ := info_parts info32
  obtain ⟨v', w', hr, h1, h2, _, h4⟩ := run_append_own_at (P := Tryz.prog) w 0 22 ty 66 i0 _ 6 80 Tryz.underlying22 hi hz0 hz1 hz2 rfl (by decide) _ _ _ h.toRow ⟨g, 0, none⟩ 1 c (Ev.six e) (by simp) (by
    intro j u hj
    have hjl : j < 6 := by have := (List.getElem?_eq_some_iff.1 hj).1; simpa using this
    rw [← hj, ← hc j hjl]
    simp only [Addr.add]
    split
    · rename_i h0; subst h0; rfl
    · simp
    ) (by intro u hu; simp only [List.mem_cons, List.not_mem_nil, or_false] at hu; rcases hu with rfl | rfl | rfl | rfl | rfl | rfl <;> rfl) (by unfold maxLen; omega) (by omega) (Nat.zero_le _)
  obtain ⟨a', cap', rfl, _⟩ := ownsRow_shape h1
  refine ⟨a', cap', w', hr, OwnE.ofRow (fun x hx => ?_) ?_, by rw [ownBlock_eq] at h2; exact h2, by rw [ownBlock_eq, ownBlock_eq] at h4; exact h4⟩
  · rcases List.mem_append.1 hx with hx | hx
    · exact h.1 x hx
    · rw [List.mem_singleton.1 hx]; exact he
  · rw [List.length_append, List.flatMap_append]
    simpa using h1

section
variable {ops : Array Oper} {rest : List Oper} {o : Oper} {a : Act} {Q : Exit → Act → World → Prop}
theorem wpList_appendE (w : World) (hgd : o.guard = none) (s x : Operand) (ho : o.op = .call { callee := .builtin .append, args := #[s, x], argTypes := #[22, 22] })
    (sa : Option Addr) (cap : Nat) (L : List Ev) (hs : a.eval s = .slice sa L.length cap) (hown : OwnE w sa cap L) (hl : L.length < 1000000)
    (g c : Nat) (e : Ev) (he : e.ok) (hx : a.eval x = .slice (some ⟨g, 0, none⟩) 1 c) (hc : ∀ r, r < 6 → w.cell? ⟨g, r, none⟩ = (Ev.six e)[r]?)
    (h : ∀ a' cap' w', OwnE w' a' cap' (L ++ [e]) → w.grownBy w' (blkOf sa) → (blkOf a' = blkOf sa ∨ blkOf a' = some w.heap.size) → wpList Tryz.prog ops Q rest (a.put o.dst (.slice a' (L.length + 1) cap')) w') : wpList Tryz.prog ops Q (o :: rest) a w := by
  refine wpList_plain hgd fun K hK => ?_
  obtain ⟨a', cap', w', hr, h1, h2, h3⟩ := appendE_run w o.type hown hl g c e he hc
  unfold Oper.wp execOp
  simp only [ho, resolve, invoke, builtin, Sem.run_bind, Sem.run_pure, Result.andThen_ok, List.map_toArray, List.map_cons, List.map_nil, hs, hx, hr]
  exact hK _ _ (h a' cap' w' h1 h2 h3)

theorem step_appendE {K : Act → World → Prop} {E : Prop} (w : World) (hgd : o.guard = none) (s x : Operand) (ho : o.op = .call { callee := .builtin .append, args := #[s, x], argTypes := #[22, 22] })
    (sa : Option Addr) (cap : Nat) (L : List Ev) (hs : a.eval s = .slice sa L.length cap) (hown : OwnE w sa cap L) (hl : L.length < 1000000)
    (g c : Nat) (e : Ev) (he : e.ok) (hx : a.eval x = .slice (some ⟨g, 0, none⟩) 1 c) (hc : ∀ r, r < 6 → w.cell? ⟨g, r, none⟩ = (Ev.six e)[r]?)
    (h : ∀ a' cap' w', OwnE w' a' cap' (L ++ [e]) → w.grownBy w' (blkOf sa) → (blkOf a' = blkOf sa ∨ blkOf a' = some w.heap.size) → K (a.put o.dst (.slice a' (L.length + 1) cap')) w') :
    if Region.wanted o (yielded ops a.tmps) = true then Oper.wp Tryz.prog o a w K Q else E := by
  have hw : Region.wanted o (yielded ops a.tmps) = true := by simp [Region.wanted, hgd]
  rw [if_pos hw]
  obtain ⟨a', cap', w', hr, h1, h2, h3⟩ := appendE_run w o.type hown hl g c e he hc
  unfold Oper.wp execOp
  simp only [ho, resolve, invoke, builtin, Sem.run_bind, Sem.run_pure, Result.andThen_ok, List.map_toArray, List.map_cons, List.map_nil, hs, hx, hr]
  exact h a' cap' w' h1 h2 h3
end

/-! ### images -/
/-- a slice of images that owns its row -/
def OwnM (w : World) (a : Option Addr) (cap : Nat) (L : List Img) : Prop := (∀ i ∈ L, i.ok) ∧ w.ownsRow 0 69 3 (.slice a L.length cap) L.length (L.flatMap Img.three)

theorem OwnM.nil (w : World) : OwnM w none 0 [] := ⟨by simp, World.ownsRow_nil _ _ _ _⟩
theorem OwnM.lt {w : World} {a : Option Addr} {cap : Nat} {L : List Img} (h : OwnM w a cap L) {g : Nat} (hg : blkOf a = some g) : g < w.heap.size := (World.ownsRow.lt h.2 g (by rw [ownBlock_eq]; exact hg)).2
theorem OwnM.chg {w w' : World} {a : Option Addr} {cap : Nat} {L : List Img} (h : OwnM w a cap L) {S : List Nat} (hc : Chg S w w') (hn : ∀ g, blkOf a = some g → g ∉ S) : OwnM w' a cap L := by
  refine ⟨h.1, h.2.1, ?_⟩
  rcases h.2.2 with h2 | ⟨g, c, cur, he, hb, hg, r⟩
  · exact .inl h2
  · cases he
    exact .inr ⟨g, _, cur, rfl, hb, hc.blk hg (hn g rfl), r⟩
theorem OwnM.imgs {w : World} {a : Option Addr} {cap : Nat} {L : List Img} (h : OwnM w a cap L) (hl : L.length ≤ 1000000) : ImgsAt w a L := by
  refine ⟨h.1, hl, ?_⟩
  rcases h.2.2 with ⟨_, h0⟩ | ⟨g, c, cur, he, hb, hg, h1, h2, h3, h4⟩
  · exact .inl (List.eq_nil_of_length_eq_zero h0)
  · cases he
    refine .inr ⟨g, 0, rfl, fun k hk => ?_⟩
    have gt : ∀ r, r < 3 → w.cell? ⟨g, 0 + k * 3 + r, none⟩ = (Img.three (L.getD k default))[r]? := fun r hr => by
      rw [← flat_get Img.three 3 (fun _ => rfl) L k r hk hr, ← h4, List.getElem?_take_of_lt (by omega), Nat.zero_add]
      simp [World.cell?, hg]
    exact ⟨gt 0 (by omega), gt 1 (by omega), gt 2 (by omega)⟩

theorem appendM_run (w : World) (ty : TypeId) {a : Option Addr} {cap : Nat} {L : List Img} (h : OwnM w a cap L) (hl : L.length < 1000000000) (g c : Nat) (e : Img) (he : e.ok) (hc : ∀ r, r < 3 → w.cell? ⟨g, r, none⟩ = (Img.three e)[r]?) :
    ∃ a' cap' w', (Builtin.append_ #[53, 53] ty #[.slice a L.length cap, .slice (some ⟨g, 0, none⟩) 1 c]).run Tryz.prog w = .ok (.slice a' (L.length + 1) cap') w' ∧ OwnM w' a' cap' (L ++ [e]) ∧ w.grownBy w' (blkOf a) ∧ (blkOf a' = blkOf a ∨ blkOf a' = some w.heap.size) := by
  obtain ⟨i0, hi, hz0, hz1, hz2⟩ := info_parts info29
  obtain ⟨v', w', hr, h1, h2, _, h4⟩ := run_append_own_at (P := Tryz.prog) w 0 53 ty 69 i0 _ 3 32 Tryz.underlying53 hi hz0 hz1 hz2 rfl (by decide) _ _ _ h.2 ⟨g, 0, none⟩ 1 c (Img.three e) (by simp) (by
    intro j u hj
    have hjl : j < 3 := by have := (List.getElem?_eq_some_iff.1 hj).1; simpa using this
    rw [← hj, ← hc j hjl]
    simp only [Addr.add]
    split
    · rename_i h0; subst h0; rfl
    · simp
    ) (by intro u hu; simp only [List.mem_cons, List.not_mem_nil, or_false] at hu; rcases hu with rfl | rfl | rfl <;> rfl) (by unfold maxLen; omega) (by omega) (Nat.zero_le _)
  obtain ⟨a', cap', rfl, _⟩ := ownsRow_shape h1
  refine ⟨a', cap', w', hr, ⟨fun x hx => ?_, ?_⟩, by rw [ownBlock_eq] at h2; exact h2, by rw [ownBlock_eq, ownBlock_eq] at h4; exact h4⟩
  · rcases List.mem_append.1 hx with hx | hx
    · exact h.1 x hx
    · rw [List.mem_singleton.1 hx]; exact he
  · rw [List.length_append, List.flatMap_append]
    simpa using h1

section
variable {ops : Array Oper} {rest : List Oper} {o : Oper} {a : Act} {Q : Exit → Act → World → Prop}
theorem wpList_appendM (w : World) (hgd : o.guard = none) (s x : Operand) (ho : o.op = .call { callee := .builtin .append, args := #[s, x], argTypes := #[53, 53] })
    (sa : Option Addr) (cap : Nat) (L : List Img) (hs : a.eval s = .slice sa L.length cap) (hown : OwnM w sa cap L) (hl : L.length < 1000000000)
    (g c : Nat) (e : Img) (he : e.ok) (hx : a.eval x = .slice (some ⟨g, 0, none⟩) 1 c) (hc : ∀ r, r < 3 → w.cell? ⟨g, r, none⟩ = (Img.three e)[r]?)
    (h : ∀ a' cap' w', OwnM w' a' cap' (L ++ [e]) → w.grownBy w' (blkOf sa) → (blkOf a' = blkOf sa ∨ blkOf a' = some w.heap.size) → wpList Tryz.prog ops Q rest (a.put o.dst (.slice a' (L.length + 1) cap')) w') : wpList Tryz.prog ops Q (o :: rest) a w := by
  refine wpList_plain hgd fun K hK => ?_
  obtain ⟨a', cap', w', hr, h1, h2, h3⟩ := appendM_run w o.type hown hl g c e he hc
  unfold Oper.wp execOp
  simp only [ho, resolve, invoke, builtin, Sem.run_bind, Sem.run_pure, Result.andThen_ok, List.map_toArray, List.map_cons, List.map_nil, hs, hx, hr]
  exact hK _ _ (h a' cap' w' h1 h2 h3)
end

theorem SMap.look {W : World} {b n : Nat} {f : Arr} (h : SMap W b n f) (k : Int) (hk : wf64 k) :
    (Instr.lookup 75 (.map (some b)) (.int .i64 k) false).run Tryz.prog W = .ok (.string ((f k).getD ⟨#[]⟩)) W := by
  obtain ⟨D, hD, hf⟩ := h
  obtain ⟨v, ps, hrun, hv⟩ := hD.lookup law3 Tryz.underlying75 (zero9 _) (plainElem_string Tryz.underlying9 (by decide)) (keyOf_int_mk Tryz.underlying3 hk)
  rw [hrun, SMap.read hf k hv]

end Go.Proofs.YteokjobkjmibfaaGreat
