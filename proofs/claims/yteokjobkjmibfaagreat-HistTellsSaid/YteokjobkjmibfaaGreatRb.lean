/- The reference's write: an array of images behind writes. Condition: what it is handed can be read; at most a million images. -/
import Derived.Test.YteokjobkjmibfaaGreatRa
namespace Go.Proofs.YteokjobkjmibfaaGreat
open Go.RowKit Go.Maps

/-! ### a slice of images that can be read and cut -/
def RowM (w : World) (v : Value) (A : List Img) : Prop :=
  (∀ i ∈ A, i.ok) ∧ ((v = .slice none 0 0 ∧ A = []) ∨ ∃ g o c, v = .slice (some ⟨g, o, none⟩) A.length c ∧ A.length ≤ c ∧ ∀ k, k < A.length → ∀ r, r < 3 → w.cell? ⟨g, o + (k * 3 + r), none⟩ = (Img.three (A.getD k default))[r]?)

theorem RowM.chgN {w w' : World} {v : Value} {A : List Img} (h : RowM w v A) {S : List Nat} (hc : Chg S w w') (hn : ∀ g, g < w.heap.size → g ∉ S) : RowM w' v A := by
  obtain ⟨h1, ⟨rfl, rfl⟩ | ⟨g, o, c, rfl, h2, h3⟩⟩ := h
  · exact ⟨h1, .inl ⟨rfl, rfl⟩⟩
  · refine ⟨h1, .inr ⟨g, o, c, rfl, h2, fun k hk r hr => ?_⟩⟩
    have hx := h3 k hk r hr
    have hsome : ∃ u, (Img.three (A.getD k default))[r]? = some u := by
      match r, hr with
      | 0, _ => exact ⟨_, rfl⟩
      | 1, _ => exact ⟨_, rfl⟩
      | 2, _ => exact ⟨_, rfl⟩
    obtain ⟨u, hu⟩ := hsome
    rw [hu] at hx ⊢
    exact (hc.cell (lt_of_cell hx) (hn _ (lt_of_cell hx))).trans hx

theorem RowM.imgs {w : World} {a : Option Addr} {n cap : Nat} {A : List Img} (h : RowM w (.slice a n cap) A) (hl : A.length ≤ 1000000) : n = A.length ∧ ImgsAt w a A := by
  obtain ⟨h1, ⟨he, rfl⟩ | ⟨g, o, c, he, h2, h3⟩⟩ := h
  · injection he with h4 h5 h6
    subst h4 h5 h6
    exact ⟨rfl, h1, hl, .inl rfl⟩
  · injection he with h4 h5 h6
    subst h4 h5 h6
    refine ⟨rfl, h1, hl, .inr ⟨g, o, rfl, fun k hk => ⟨?_, ?_, ?_⟩⟩⟩
    · exact h3 k hk 0 (by omega)
    · exact h3 k hk 1 (by omega)
    · exact h3 k hk 2 (by omega)

theorem appendMg_run (w : World) (ty : TypeId) {a : Option Addr} {cap : Nat} {L X : List Img} {v : Value} (h : OwnM w a cap L) (hx : RowM w v X) (hl : L.length < 1000000) (hl2 : X.length < 1000000) :
    ∃ a' cap' w', (Builtin.append_ #[53, 53] ty #[.slice a L.length cap, v]).run Tryz.prog w = .ok (.slice a' (L.length + X.length) cap') w' ∧ OwnM w' a' cap' (L ++ X) ∧ w.grownBy w' (blkOf a) ∧ (blkOf a' = blkOf a ∨ blkOf a' = some w.heap.size) := by
  obtain ⟨i0, hi, hz0, hz1, hz2⟩ := info_parts info29
  obtain ⟨hok, ⟨rfl, rfl⟩ | ⟨g, o, c, rfl, hcap, hc⟩⟩ := hx
  · refine ⟨a, cap, w, run_append_owned_none (P := Tryz.prog) w 0 53 ty 69 i0 3 Tryz.underlying53 hi _ _ _ h.2, by simpa using h, World.grownBy.refl _ _, .inl rfl⟩
  · obtain ⟨v', w', hr, r1, r2, r3, r4⟩ := run_append_own_at (P := Tryz.prog) w 0 53 ty 69 i0 _ 3 32 Tryz.underlying53 hi hz0 hz1 hz2 rfl (by decide) _ _ _ h.2 ⟨g, o, none⟩ X.length c (X.flatMap Img.three) (flat_len _ 3 (fun _ => rfl) X)
      (by
        intro j u hj
        have hjl : j < X.length * 3 := by have := (List.getElem?_eq_some_iff.1 hj).1; rwa [flat_len Img.three 3 (fun _ => rfl)] at this
        obtain ⟨k, r, hr, rfl⟩ : ∃ k r, r < 3 ∧ j = k * 3 + r := ⟨j / 3, j % 3, by omega, by omega⟩
        have hkl : k < X.length := by omega
        rw [flat_get Img.three 3 (fun _ => rfl) X k r hkl hr] at hj
        have hadd : (⟨g, o, none⟩ : Addr).add (k * 3 + r) = ⟨g, o + (k * 3 + r), none⟩ := by
          simp only [Addr.add]
          split
          · rename_i h0; rw [h0, Nat.add_zero]
          · rfl
        rw [hadd, hc k hkl r hr]
        exact hj)
      (by
        intro u hu
        obtain ⟨e, _, he⟩ := List.mem_flatMap.1 hu
        simp only [List.mem_cons, List.not_mem_nil, or_false] at he
        rcases he with rfl | rfl | rfl <;> rfl) (by unfold maxLen; omega) (by omega) (Nat.zero_le _)
    obtain ⟨a', cap', rfl, _⟩ := ownsRow_shape r1
    refine ⟨a', cap', w', hr, ⟨fun x hx => ?_, ?_⟩, by rw [ownBlock_eq] at r2; exact r2, by rw [ownBlock_eq, ownBlock_eq] at r4; exact r4⟩
    · rcases List.mem_append.1 hx with hx | hx
      · exact h.1 x hx
      · exact hok x hx
    · rw [List.length_append, List.flatMap_append]
      exact r1

section
variable {ops : Array Oper} {o : Oper} {a : Act} {Q : Exit → Act → World → Prop}
theorem step_appendMg {K : Act → World → Prop} {E : Prop} (w : World) (hgd : o.guard = none) (s x : Operand) (ho : o.op = .call { callee := .builtin .append, args := #[s, x], argTypes := #[53, 53] })
    (sa : Option Addr) (cap n : Nat) (L : List Img) (hn : L.length = n) (hs : a.eval s = .slice sa n cap) (hown : OwnM w sa cap L) (hl : L.length < 1000000)
    (v : Value) (X : List Img) (p : Nat) (hx : a.eval x = v) (hX : RowM w v X) (hl2 : X.length < 1000000) (hp : n + X.length = p)
    (h : ∀ a' cap' w', OwnM w' a' cap' (L ++ X) → w.grownBy w' (blkOf sa) → (blkOf a' = blkOf sa ∨ blkOf a' = some w.heap.size) → K (a.put o.dst (.slice a' p cap')) w') :
    if Region.wanted o (yielded ops a.tmps) = true then Oper.wp Tryz.prog o a w K Q else E := by
  subst hn
  subst hp
  have hw : Region.wanted o (yielded ops a.tmps) = true := by simp [Region.wanted, hgd]
  rw [if_pos hw]
  obtain ⟨a', cap', w', hr, h1, h2, h3⟩ := appendMg_run w o.type hown hX hl hl2
  unfold Oper.wp execOp
  simp only [ho, resolve, invoke, builtin, Sem.run_bind, Sem.run_pure, Result.andThen_ok, List.map_toArray, List.map_cons, List.map_nil, hs, hx, hr]
  exact h a' cap' w' h1 h2 h3
end
theorem rowm_take {w : World} {B : List Img} {a : Option Addr} {r rc : Nat} (hr : r ≤ B.length) (h : RowM w (.slice a B.length rc) B) : RowM w (.slice a r rc) (B.take r) := by
  obtain ⟨h1, ⟨he, rfl⟩ | ⟨g, o, c, he, h2, h3⟩⟩ := h
  · injection he with h4 h5 h6
    subst h4 h6
    obtain rfl : r = 0 := by simpa using hr
    exact ⟨by simp, .inl ⟨rfl, rfl⟩⟩
  · injection he with h4 h5 h6
    subst h4 h6
    have hl : (B.take r).length = r := by rw [List.length_take]; omega
    refine ⟨fun i hi => h1 i (List.mem_of_mem_take hi), .inr ⟨g, o, rc, by rw [hl], by omega, fun k hk q hq => ?_⟩⟩
    rw [hl] at hk
    rw [h3 k (by omega) q hq]
    simp [List.getD_eq_getElem?_getD, List.getElem?_take, hk]
theorem rowm_one {w : World} {b : Nat} {e : Img} (hok : e.ok) (hB : Blk w b e.three.toArray 69) : RowM w (.slice (some ⟨b, 0, none⟩) 1 1) [e] := by
  refine ⟨by simpa using hok, .inr ⟨b, 0, 1, rfl, by simp, fun k hk r hr => ?_⟩⟩
  obtain rfl : k = 0 := by simpa using hk
  match r, hr with
  | 0, _ => exact hB.cell 0 rfl
  | 1, _ => exact hB.cell 1 rfl
  | 2, _ => exact hB.cell 2 rfl

/-- a row that a run of appends has made since W -/
structure Apd (W w : World) (a : Option Addr) : Prop where
  chg : Chg [] W w
  new : ∀ g, blkOf a = some g → W.heap.size ≤ g
theorem Apd.first {W V w : World} {a : Option Addr} (hV : Chg [] W V) (hg : V.grownBy w (blkOf none)) (hat : blkOf a = blkOf none ∨ blkOf a = some V.heap.size) : Apd W w a :=
  ⟨hV.grown hg (fun k hk => by cases hk), fun g hg' => by
    rcases hat with h | h
    · rw [h] at hg'; cases hg'
    · rw [h] at hg'; cases hg'; exact hV.size⟩
theorem Apd.next {W V V' w : World} {a a' : Option Addr} (h : Apd W V a) (hV : Chg [] V V') (hg : V'.grownBy w (blkOf a)) (hat : blkOf a' = blkOf a ∨ blkOf a' = some V'.heap.size) : Apd W w a' :=
  ⟨(h.chg.trans hV).grown hg (fun k hk => .inr (h.new k hk)), fun g hg' => by
    rcases hat with e | e
    · rw [e] at hg'; exact h.new g hg'
    · rw [e] at hg'; cases hg'; exact (h.chg.trans hV).size⟩

theorem OwnM.rowM {w : World} {a : Option Addr} {cap : Nat} {L : List Img} (h : OwnM w a cap L) : RowM w (.slice a L.length cap) L := by
  refine ⟨h.1, ?_⟩
  rcases h.2.2 with ⟨he, h0⟩ | ⟨g, c, cur, he, hb, hg, h1, h2, h3, h4⟩
  · exact .inl ⟨he, List.eq_nil_of_length_eq_zero h0⟩
  · cases he
    refine .inr ⟨g, 0, cap, rfl, h1, fun k hk r hr => ?_⟩
    rw [← flat_get Img.three 3 (fun _ => rfl) L k r hk hr, ← h4, List.getElem?_take_of_lt (by omega), Nat.zero_add]
    simp [World.cell?, hg]

end Go.Proofs.YteokjobkjmibfaaGreat
