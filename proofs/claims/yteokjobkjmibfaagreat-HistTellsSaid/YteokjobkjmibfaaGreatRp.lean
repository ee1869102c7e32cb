/- The plain law: what the reference's Play makes of a history is what Play makes of it. Condition: the events' numbers are in their range. -/
import Derived.Test.YteokjobkjmibfaaGreatRg
namespace Go.Proofs.YteokjobkjmibfaaGreat
open Go.RowKit Go.Maps

/-! ### arrays -/
theorem rput_nil (x : Img) : rput [] x = [x] := by
  simp [rput, rk, rrest]
theorem rput_cons (y : Img) (r : List Img) (x : Img) : rput (y :: r) x = if y.block < x.block then y :: rput r x else if y.block = x.block then x :: r else x :: y :: r := by
  by_cases h : y.block < x.block
  · have hr : rk (y :: r) x.block = rk r x.block + 1 := by unfold rk; simp [List.takeWhile_cons, h]
    rw [if_pos h]
    unfold rput rrest
    rw [hr]
    simp only [List.take_succ_cons, List.getD_cons_succ, List.length_cons, List.drop_succ_cons, Nat.add_lt_add_iff_right]
    split <;> rfl
  · have hr : rk (y :: r) x.block = 0 := by unfold rk; simp [List.takeWhile_cons, h]
    rw [if_neg h]
    unfold rput rrest
    rw [hr]
    by_cases he : y.block = x.block
    · simp [he]
    · simp [he]

abbrev Rises (A : List Img) : Prop := (A.map Img.block).Pairwise (· < ·)
theorem rises_cons {y : Img} {r : List Img} : Rises (y :: r) ↔ (∀ j ∈ r, y.block < j.block) ∧ Rises r := by
  unfold Rises
  rw [List.map_cons, List.pairwise_cons]
  constructor
  · rintro ⟨h1, h2⟩
    exact ⟨fun j hj => h1 _ (List.mem_map_of_mem hj), h2⟩
  · rintro ⟨h1, h2⟩
    refine ⟨fun b hb => ?_, h2⟩
    obtain ⟨j, hj, rfl⟩ := List.mem_map.1 hb
    exact h1 j hj

theorem rput_mem {A : List Img} (hA : Rises A) (x i : Img) : i ∈ rput A x ↔ i = x ∨ (i ∈ A ∧ i.block ≠ x.block) := by
  induction A with
  | nil => simp [rput_nil]
  | cons y r ih =>
    obtain ⟨hy, hr⟩ := rises_cons.1 hA
    have ih := ih hr
    rw [rput_cons]
    by_cases h : y.block < x.block
    · rw [if_pos h, List.mem_cons, ih, List.mem_cons]
      constructor
      · rintro (rfl | rfl | ⟨h1, h2⟩)
        · exact .inr ⟨.inl rfl, by omega⟩
        · exact .inl rfl
        · exact .inr ⟨.inr h1, h2⟩
      · rintro (rfl | ⟨rfl | h1, h2⟩)
        · exact .inr (.inl rfl)
        · exact .inl rfl
        · exact .inr (.inr ⟨h1, h2⟩)
    · rw [if_neg h]
      by_cases he : y.block = x.block
      · rw [if_pos he, List.mem_cons, List.mem_cons]
        constructor
        · rintro (rfl | h1)
          · exact .inl rfl
          · exact .inr ⟨.inr h1, by have := hy i h1; omega⟩
        · rintro (rfl | ⟨rfl | h1, h2⟩)
          · exact .inl rfl
          · exact absurd he h2
          · exact .inr h1
      · rw [if_neg he, List.mem_cons, List.mem_cons]
        constructor
        · rintro (rfl | rfl | h1)
          · exact .inl rfl
          · exact .inr ⟨.inl rfl, he⟩
          · exact .inr ⟨.inr h1, by have := hy i h1; omega⟩
        · rintro (rfl | ⟨rfl | h1, h2⟩)
          · exact .inl rfl
          · exact .inr (.inl rfl)
          · exact .inr (.inr h1)

theorem rput_rises {A : List Img} (hA : Rises A) (x : Img) : Rises (rput A x) := by
  induction A with
  | nil => rw [rput_nil]; simp [Rises]
  | cons y r ih =>
    obtain ⟨hy, hr⟩ := rises_cons.1 hA
    have ih := ih hr
    rw [rput_cons]
    by_cases h : y.block < x.block
    · rw [if_pos h]
      refine rises_cons.2 ⟨fun j hj => ?_, ih⟩
      rcases (rput_mem hr x j).1 hj with rfl | ⟨h1, _⟩
      · exact h
      · exact hy j h1
    · rw [if_neg h]
      by_cases he : y.block = x.block
      · rw [if_pos he]
        exact rises_cons.2 ⟨fun j hj => by have := hy j hj; omega, hr⟩
      · rw [if_neg he]
        refine rises_cons.2 ⟨fun j hj => ?_, hA⟩
        rcases List.mem_cons.1 hj with rfl | hj
        · omega
        · have := hy j hj; omega

theorem shows_nil : Shows (fun _ => none) [] := ⟨by simp, fun i => by simp⟩
theorem shows_put {f : Arr} {A : List Img} (h : Shows f A) (b : Int) (d : Str) : Shows (upd f b d) (rput A ⟨b, 0, d⟩) := by
  refine ⟨rput_rises h.1 _, fun i => ?_⟩
  rw [rput_mem h.1, h.2]
  unfold upd
  obtain ⟨ib, iv, idt⟩ := i
  simp only [Img.mk.injEq]
  by_cases he : ib = b
  · subst he
    simp only [if_true, ne_eq, not_true_eq_false, and_false, or_false, true_and, Option.some.injEq]
    constructor
    · rintro ⟨rfl, rfl⟩; exact ⟨rfl, rfl⟩
    · rintro ⟨rfl, rfl⟩; exact ⟨rfl, rfl⟩
  · simp only [he, if_false, false_and, false_or, ne_eq, not_false_eq_true, and_true]
theorem shows_write {f : Arr} {A : List Img} (h : Shows f A) (L : List Img) : Shows (f.write L) (rwrite A L) := by
  unfold Arr.write rwrite
  induction L generalizing f A with
  | nil => exact h
  | cons i r ih => exact ih (shows_put h i.block i.data)
theorem shows_get {f : Arr} {A : List Img} (h : Shows f A) (b : Int) : rget A b = f.has b := by
  have : (A.find? fun i => i.block == b).map Img.data = f b := by
    cases hf : A.find? (fun i => i.block == b) with
    | some i =>
      have h1 := List.find?_some hf
      have h2 := List.mem_of_find?_eq_some hf
      have h3 := ((h.2 i).1 h2).2
      simp only [beq_iff_eq] at h1
      rw [← h1, h3]; rfl
    | none =>
      cases hb : f b with
      | none => rfl
      | some d =>
        have h1 : (⟨b, 0, d⟩ : Img) ∈ A := (h.2 _).2 ⟨rfl, hb⟩
        have h2 := List.find?_eq_none.1 hf _ h1
        simp at h2
  unfold rget Arr.has
  rw [this]
theorem shows_reads {f : Arr} {A : List Img} (h : Shows f A) (L : List Img) : L.all f.right = rreads A L := by
  unfold rreads
  congr 1
  funext i
  unfold Arr.right
  rw [shows_get h]
theorem rises_ext : ∀ {A B : List Img}, Rises A → Rises B → (∀ i, i ∈ A ↔ i ∈ B) → A = B
  | [], [], _, _, _ => rfl
  | [], b :: t, _, _, h => by have := (h b).2 (by simp); simp at this
  | a :: r, [], _, _, h => by have := (h a).1 (by simp); simp at this
  | a :: r, b :: t, hA, hB, h => by
    obtain ⟨ha, hr⟩ := rises_cons.1 hA
    obtain ⟨hb, ht⟩ := rises_cons.1 hB
    have hab : a = b := by
      rcases List.mem_cons.1 ((h a).1 (by simp)) with e | e
      · exact e
      · rcases List.mem_cons.1 ((h b).2 (by simp)) with e2 | e2
        · exact e2.symm
        · have h1 := hb a e; have h2 := ha b e2; omega
    subst hab
    rw [rises_ext hr ht fun i => ?_]
    constructor
    · intro hi
      rcases List.mem_cons.1 ((h i).1 (List.mem_cons_of_mem _ hi)) with e | e
      · subst e; have := ha i hi; omega
      · exact e
    · intro hi
      rcases List.mem_cons.1 ((h i).2 (List.mem_cons_of_mem _ hi)) with e | e
      · subst e; have := hb i hi; omega
      · exact e
theorem shows_one {f : Arr} {A B : List Img} (hA : Shows f A) (hB : Shows f B) : A = B :=
  rises_ext hA.1 hB.1 fun i => (hA.2 i).trans (hB.2 i).symm

/-! ### commits as the program keeps them -/
def of (n e : Int) (y : Ev) : Bool := (y.node == n) && (y.epoch == e)
def adjE (P : List Ev) (e : Ev) : Ev := { e with lsn := if e.lsn = 0 then P.foldl (rcstep e.node e.epoch) 0 else e.lsn }
def adjs (T : List Ev) : Nat → List Ev
  | 0 => []
  | k + 1 => adjs T k ++ [adjE (T.take k) (T.getD k default)]
theorem adjs_app (T U : List Ev) : ∀ k, k ≤ T.length → adjs (T ++ U) k = adjs T k
  | 0, _ => rfl
  | k + 1, h => by
    unfold adjs
    rw [adjs_app T U k (by omega), List.take_append_of_le_length (by omega), List.getD_eq_getElem?_getD, List.getElem?_append_left (by omega), List.getD_eq_getElem?_getD]
theorem adjs_snoc (T : List Ev) (x : Ev) : adjs (T ++ [x]) (T ++ [x]).length = adjs T T.length ++ [adjE T x] := by
  rw [List.length_append]
  show adjs (T ++ [x]) T.length ++ _ = _
  rw [adjs_app _ _ _ (Nat.le_refl _), List.take_left, List.getD_eq_getElem?_getD, List.getElem?_append_right (Nat.le_refl _), Nat.sub_self]
  rfl

theorem of_iff {n e : Int} {y : Ev} : of n e y = true ↔ y.node = n ∧ y.epoch = e := by simp [of]
theorem rc_filter (n ep : Int) (P : List Ev) (m : Int) : P.foldl (rcstep n ep) m = (P.filter (of n ep)).foldl (fun m x => max m x.lsn) m := by
  induction P generalizing m with
  | nil => rfl
  | cons x r ih =>
    rw [List.foldl_cons, ih]
    unfold rcstep
    by_cases h : x.node = n ∧ x.epoch = ep
    · rw [if_pos h, List.filter_cons, if_pos (of_iff.2 h), List.foldl_cons]
    · rw [if_neg h, List.filter_cons, if_neg (fun h' => h (of_iff.1 h'))]
theorem gs_filter (n ep : Int) (P : List Ev) (m : Int) : P.foldl (gstep n ep) m = (P.filter (fun y => (y.kind == 1) && of n ep y)).foldl (fun m x => max m x.lsn) m := by
  induction P generalizing m with
  | nil => rfl
  | cons x r ih =>
    rw [List.foldl_cons, ih]
    unfold gstep
    by_cases h : x.kind = 1 ∧ x.node = n ∧ x.epoch = ep
    · rw [if_pos h, List.filter_cons, if_pos (by rw [Bool.and_eq_true, of_iff, beq_iff_eq]; exact h), List.foldl_cons]
    · rw [if_neg h, List.filter_cons, if_neg (fun h' => h (by rw [Bool.and_eq_true, of_iff, beq_iff_eq] at h'; exact h'))]
theorem rc_init (n ep : Int) (P : List Ev) (m : Int) : m ≤ P.foldl (rcstep n ep) m := by
  induction P generalizing m with
  | nil => exact Int.le_refl _
  | cons x r ih =>
    rw [List.foldl_cons]
    refine Int.le_trans ?_ (ih _)
    unfold rcstep
    split <;> omega
theorem rc_mem {n ep : Int} {P : List Ev} {y : Ev} (hy : y ∈ P) (ho : y.node = n ∧ y.epoch = ep) (m : Int) : y.lsn ≤ P.foldl (rcstep n ep) m := by
  induction P generalizing m with
  | nil => simp at hy
  | cons x r ih =>
    rw [List.foldl_cons]
    rcases List.mem_cons.1 hy with rfl | h
    · refine Int.le_trans ?_ (rc_init n ep r _)
      unfold rcstep
      rw [if_pos ho]; omega
    · exact ih h _
theorem rc_mono {n ep : Int} (T : List Ev) {j k : Nat} (h : j ≤ k) (m : Int) : (T.take j).foldl (rcstep n ep) m ≤ (T.take k).foldl (rcstep n ep) m := by
  have : T.take k = T.take j ++ (T.take k).drop j := by
    conv => lhs; rw [← List.take_append_drop j (T.take k)]
    rw [List.take_take, Nat.min_eq_left h]
  rw [this, List.foldl_append]
  exact rc_init _ _ _ _

/-- what vanishes is what the program takes away -/
theorem van_iff (T : List Ev) (x : Ev) (cut : Int) (k : Nat) : gonep x.node x.epoch cut (adjE (T.take k) (T.getD k default)) = rvan T x cut k := by
  unfold gonep rvan same rcounts adjE
  simp only
  congr 1

theorem rstill_succ (T : List Ev) (x : Ev) (cut : Int) (k : Nat) : rstill T x cut (k + 1) = if rvan T x cut k then rstill T x cut k else ((rstill T x cut k).1 ++ [T.getD k default], rwrite (rstill T x cut k).2 (T.getD k default).ws) := rfl
/-- of an epoch of which none vanishes, all stay -/
theorem still_of {T : List Ev} {x : Ev} {cut n ep : Int} : ∀ {j : Nat}, j ≤ T.length → (∀ i, i < j → of n ep (T.getD i default) = true → rvan T x cut i = false) → (rstill T x cut j).1.filter (of n ep) = (T.take j).filter (of n ep)
  | 0, _, _ => rfl
  | j + 1, hj, h => by
    have ih := still_of (j := j) (by omega) (fun i hi => h i (by omega))
    rw [take_step (by omega), List.filter_append, ← ih, rstill_succ]
    cases hv : rvan T x cut j
    · rw [if_neg (by simp)]
      rw [List.filter_append]
    · rw [if_pos rfl]
      have hn : of n ep (T.getD j default) = false := by
        cases ho : of n ep (T.getD j default)
        · rfl
        · rw [h j (by omega) ho] at hv; cases hv
      generalize T.getD j default = y at hn
      simp [hn]

/-- one that stays counts as it did -/
theorem still_adj {T : List Ev} {x : Ev} {cut : Int} {k : Nat} (hk : k < T.length) (hv : rvan T x cut k = false) : adjE (rstill T x cut k).1 (T.getD k default) = adjE (T.take k) (T.getD k default) := by
  unfold adjE
  by_cases h0 : (T.getD k default).lsn = 0
  · rw [if_pos h0, if_pos h0, rc_filter, rc_filter, still_of (by omega)]
    intro i hi ho
    by_cases hs : same (T.getD k default) x = true
    · have hc : ¬ cut < rcounts T k := by
        intro hc
        unfold rvan at hv
        rw [hs, decide_eq_true hc] at hv
        simp at hv
      have hck : rcounts T k = (T.take k).foldl (rcstep (T.getD k default).node (T.getD k default).epoch) 0 := by unfold rcounts; rw [if_pos h0]
      rw [of_iff] at ho
      have hci : rcounts T i ≤ rcounts T k := by
        rw [hck]
        unfold rcounts
        by_cases hi0 : (T.getD i default).lsn = 0
        · rw [if_pos hi0, ho.1, ho.2]
          exact rc_mono T (by omega) 0
        · rw [if_neg hi0]
          refine rc_mem ?_ ho 0
          have he : (T.take k).getD i default = T.getD i default := by
            rw [List.getD_eq_getElem?_getD, List.getD_eq_getElem?_getD, List.getElem?_take_of_lt hi]
          rw [← he]
          exact getD_mem (by rw [List.length_take]; omega)
      unfold rvan
      rw [decide_eq_false (by omega), Bool.and_false]
    · have : same (T.getD i default) x = false := by
        rw [of_iff] at ho
        unfold same at hs ⊢
        rw [ho.1, ho.2]
        simpa using hs
      unfold rvan
      rw [this, Bool.false_and]
  · rw [if_neg h0, if_neg h0]

theorem adjE_ws (P : List Ev) (e : Ev) : (adjE P e).ws = e.ws := rfl
theorem adjE_rs (P : List Ev) (e : Ev) : (adjE P e).rs = e.rs := rfl
theorem alone_app (L : List Ev) (x : Ev) : alone (L ++ [x]) = ((alone L).1.write x.ws, (alone L).2 && x.rs.all (alone L).1.right) := by unfold alone; rw [List.foldl_append]; rfl

/-- behind a Gone -/
theorem still_all (T : List Ev) (x : Ev) (cut : Int) : ∀ k, k ≤ T.length →
    (adjs T k).filter (fun y => !gonep x.node x.epoch cut y) = adjs (rstill T x cut k).1 (rstill T x cut k).1.length ∧ Shows (alone (adjs (rstill T x cut k).1 (rstill T x cut k).1.length)).1 (rstill T x cut k).2
  | 0, _ => ⟨rfl, shows_nil⟩
  | k + 1, hk => by
    obtain ⟨h1, h2⟩ := still_all T x cut k (by omega)
    have hv := van_iff T x cut k
    have h3 := still_adj (T := T) (x := x) (cut := cut) (k := k) (by omega)
    show (adjs T k ++ [adjE (T.take k) (T.getD k default)]).filter _ = _ ∧ _
    rw [rstill_succ]
    cases hr : rvan T x cut k
    · rw [hr] at hv
      have h3 := h3 hr
      rw [if_neg (by simp)]
      simp only
      rw [adjs_snoc, List.filter_append, h1, h3]
      refine ⟨?_, ?_⟩
      · congr 1
        rw [List.filter_cons, hv]; rfl
      · rw [alone_app, adjE_ws]
        exact shows_write h2 _
    · rw [hr] at hv
      rw [if_pos rfl, List.filter_append, h1]
      refine ⟨?_, h2⟩
      rw [List.filter_cons, hv]; simp

/-! ### the two side by side -/
structure PInv (L : List Ev) (C : List Int) (k : Nat) (s : PSt) (r : RSt) : Prop where
  f : (alone s.stay).1 = s.f
  arr : Shows s.f r.a
  ok : s.ok = r.ok
  stay : s.stay = adjs r.there r.there.length
  gone : ∀ n e, s.gone n e = r.gone.any (of n e)
  cuts : s.cuts = C.drop r.gone.length
  full : ∀ n e, s.gone n e = false → r.there.filter (of n e) = (L.take k).filter (fun y => (y.kind == 1) && of n e y)

theorem late_eq (G : List Ev) (x : Ev) : rlate G x = G.any (of x.node x.epoch) := rfl

theorem cut_eq (C : List Int) (n : Nat) : (C.drop n).headD 0 = rcut C n := by
  unfold rcut
  by_cases h : n < C.length
  · rw [if_pos h, List.drop_eq_getElem_cons h, List.headD_cons, List.getD_eq_getElem?_getD, List.getElem?_eq_getElem h]; rfl
  · rw [if_neg h, List.drop_eq_nil_of_le (by omega)]; rfl

theorem grt_adj {L : List Ev} {k : Nat} {T : List Ev} {x : Ev} (h0 : 0 ≤ x.lsn) (hf : T.filter (of x.node x.epoch) = (L.take k).filter (fun y => (y.kind == 1) && of x.node x.epoch y)) : x.grt (L.take k) = adjE T x := by
  unfold Ev.grt adjE
  by_cases h : 0 < x.lsn
  · rw [if_pos h, if_neg (by omega)]
  · have hz : x.lsn = 0 := by omega
    rw [if_neg h, if_pos hz, gs_filter, ← hf, ← rc_filter, hz]

theorem pinv (L : List Ev) (hok : ∀ e ∈ L, e.ok) (C : List Int) : ∀ k, k ≤ L.length → PInv L C k (plays L C k) (rplays L C k)
  | 0, _ => ⟨rfl, shows_nil, rfl, rfl, fun _ _ => rfl, rfl, fun _ _ _ => rfl⟩
  | k + 1, hk => by
    have ih := pinv L hok C k (by omega)
    rw [rplays_step (by omega)]
    show PInv _ _ _ (pstep (L.take k) (plays L C k) (L.getD k default)) _
    have h0 : 0 ≤ (L.getD k default).lsn := (rangeu64 (hok _ (getD_mem (by omega))).2.2.2).1
    have htk := take_step (L := L) (k := k) (by omega)
    generalize plays L C k = s at ih
    generalize rplays L C k = r at ih
    generalize L.getD k default = x at h0 htk
    have hlate : rlate r.gone x = s.gone x.node x.epoch := by rw [late_eq, ih.gone]
    unfold pstep rstep
    by_cases h1 : x.kind = 1
    · rw [if_pos h1, if_pos h1, hlate]
      cases hg : s.gone x.node x.epoch
      · rw [if_neg (by simp), if_neg (by simp)]
        have hgr := grt_adj h0 (ih.full _ _ hg)
        refine ⟨?_, ?_, ?_, ?_, ih.gone, ih.cuts, fun n e hn => ?_⟩
        · show (alone (s.stay ++ [x.grt (L.take k)])).1 = s.f.write x.ws
          rw [alone_app, ih.f, hgr, adjE_ws]
        · exact shows_write ih.arr _
        · show (s.ok && x.rs.all s.f.right) = _
          rw [shows_reads ih.arr, ih.ok]
        · show s.stay ++ [x.grt (L.take k)] = adjs (r.there ++ [x]) (r.there ++ [x]).length
          rw [adjs_snoc, hgr, ih.stay]
        · show (r.there ++ [x]).filter _ = _
          rw [htk, List.filter_append, List.filter_append, ih.full n e hn]
          congr 1
          rw [List.filter_cons, List.filter_cons, h1]
          rfl
      · rw [if_pos rfl, if_pos rfl]
        refine ⟨ih.f, ih.arr, ih.ok, ih.stay, ih.gone, ih.cuts, fun n e hn => ?_⟩
        rw [htk, List.filter_append, ih.full n e hn]
        have : of n e x = false := by
          cases ho : of n e x
          · rfl
          · rw [of_iff] at ho
            rw [ho.1, ho.2, hn] at hg
            cases hg
        rw [List.filter_cons, this]
        simp
    · rw [if_neg h1, if_neg h1]
      have hnot : ∀ n e, (L.take (k + 1)).filter (fun y => (y.kind == 1) && of n e y) = (L.take k).filter (fun y => (y.kind == 1) && of n e y) := fun n e => by
        rw [htk, List.filter_append]
        have : (x.kind == 1) = false := by simpa using h1
        rw [List.filter_cons, this]
        simp
      by_cases h3 : x.kind = 3
      · rw [if_pos h3, if_pos h3]
        have hcut : s.cuts.headD 0 = rcut C r.gone.length := by rw [ih.cuts, cut_eq]
        obtain ⟨a1, a2⟩ := still_all r.there x (rcut C r.gone.length) r.there.length (Nat.le_refl _)
        have hleft : s.left x = adjs (rstill r.there x (rcut C r.gone.length) r.there.length).1 (rstill r.there x (rcut C r.gone.length) r.there.length).1.length := by
          unfold PSt.left
          rw [hcut, ih.stay, a1]
        refine ⟨rfl, ?_, ih.ok, hleft, fun n e => ?_, ?_, fun n e hn => ?_⟩
        · show Shows (alone (s.left x)).1 _
          rw [hleft]
          exact a2
        · show gput s.gone x.node x.epoch n e = (r.gone ++ [x]).any _
          rw [List.any_append, ← ih.gone]
          unfold gput
          by_cases he : n = x.node ∧ e = x.epoch
          · rw [if_pos he]
            simp [of, he.1, he.2]
          · rw [if_neg he]
            have : of n e x = false := by
              cases ho : of n e x
              · rfl
              · rw [of_iff] at ho; exact absurd ⟨ho.1.symm, ho.2.symm⟩ he
            simp [this]
        · show s.cuts.tail = C.drop (r.gone ++ [x]).length
          rw [ih.cuts, List.length_append, List.tail_drop]
          rfl
        · have hn' : gput s.gone x.node x.epoch n e = false := hn
          unfold gput at hn'
          by_cases he : n = x.node ∧ e = x.epoch
          · rw [if_pos he] at hn'; cases hn'
          · rw [if_neg he] at hn'
            rw [hnot, ← ih.full n e hn']
            show (rstill r.there x (rcut C r.gone.length) r.there.length).1.filter _ = _
            rw [still_of (Nat.le_refl _), List.take_length]
            intro i _ ho
            rw [of_iff] at ho
            have : same (r.there.getD i default) x = false := by
              unfold same
              rw [ho.1, ho.2, Bool.and_eq_false_iff]
              by_cases e1 : n = x.node
              · exact .inr (by simpa using fun e2 => he ⟨e1, e2⟩)
              · exact .inl (by simpa using e1)
            unfold rvan
            rw [this, Bool.false_and]
      · rw [if_neg h3, if_neg h3]
        by_cases h4 : x.kind = 4
        · rw [if_pos h4, if_pos h4]
          refine ⟨ih.f, ih.arr, ?_, ih.stay, ih.gone, ih.cuts, fun n e hn => (ih.full n e hn).trans (hnot n e).symm⟩
          show (s.ok && x.rs.all s.f.right) = _
          rw [shows_reads ih.arr, ih.ok]
        · rw [if_neg h4, if_neg h4]
          exact ⟨ih.f, ih.arr, ih.ok, ih.stay, ih.gone, ih.cuts, fun n e hn => (ih.full n e hn).trans (hnot n e).symm⟩

theorem rend_adj (r : RSt) : ∀ k, k ≤ r.there.length → (rend r k).1 = (r.ok && (alone (adjs r.there k)).2) ∧ Shows (alone (adjs r.there k)).1 (rend r k).2
  | 0, _ => ⟨by simp [rend, alone, adjs], shows_nil⟩
  | k + 1, hk => by
    obtain ⟨h1, h2⟩ := rend_adj r k (by omega)
    rw [rend_step (by omega)]
    show ((rend r k).1 && rreads (rend r k).2 (r.there.getD k default).rs) = (r.ok && (alone (adjs r.there k ++ [adjE (r.there.take k) (r.there.getD k default)])).2) ∧ Shows (alone (adjs r.there k ++ [adjE (r.there.take k) (r.there.getD k default)])).1 (rwrite (rend r k).2 (r.there.getD k default).ws)
    rw [alone_app, adjE_ws, adjE_rs]
    refine ⟨?_, shows_write h2 _⟩
    simp only
    rw [h1, shows_reads h2, Bool.and_assoc]

/-- what the reference's Play makes is what Play makes -/
theorem rplay_eq {L : List Ev} (hok : ∀ e ∈ L, e.ok) (C : List Int) : (rplay L C).1 = playOk L C := by
  have h := pinv L hok C L.length (Nat.le_refl _)
  have h2 := (rend_adj (rplays L C L.length) _ (Nat.le_refl _)).1
  unfold rplay playOk
  simp only
  rw [h2, h.ok, ← h.stay]
theorem rplay_arr {L : List Ev} (hok : ∀ e ∈ L, e.ok) (C : List Int) : Shows (playArr L C) (rplay L C).2 := by
  have h := pinv L hok C L.length (Nat.le_refl _)
  unfold rplay playArr
  simp only
  rw [h.f]
  exact h.arr

end Go.Proofs.YteokjobkjmibfaaGreat
