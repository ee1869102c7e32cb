/- Plain laws of histories: a history without a Gone is right just where each read is right; a history with one Gone at its end. Conditions: those that each law names. -/
import Derived.Test.YteokjobkjmibfaaGreatO
namespace Go.Proofs.YteokjobkjmibfaaGreat
open Go.RowKit Go.Maps

def run (p : Arr × Bool) (e : Ev) : Arr × Bool := if e.kind = 1 then (p.1.write e.ws, p.2 && e.rs.all p.1.right) else if e.kind = 4 then (p.1, p.2 && e.rs.all p.1.right) else p
def runs (L : List Ev) : Arr × Bool := L.foldl run (fun _ => none, true)

theorem alone_snoc (L : List Ev) (x : Ev) : alone (L ++ [x]) = aloneStep (alone L) x := by unfold alone; rw [List.foldl_append]; rfl
theorem runs_snoc (L : List Ev) (x : Ev) : runs (L ++ [x]) = run (runs L) x := by unfold runs; rw [List.foldl_append]; rfl
theorem grt_ws (e : Ev) (L : List Ev) : (e.grt L).ws = e.ws := by unfold Ev.grt; split <;> rfl
theorem grt_rs (e : Ev) (L : List Ev) : (e.grt L).rs = e.rs := by unfold Ev.grt; split <;> rfl
theorem grt_self (e : Ev) (L : List Ev) (h : 0 < e.lsn) : e.grt L = e := by unfold Ev.grt; rw [if_pos h]

structure NoGone (p : Arr × Bool) (s : PSt) : Prop where
  f : s.f = p.1
  ok : s.ok = p.2
  gone : s.gone = fun _ _ => false
  same : (alone s.stay).1 = p.1
  right : p.2 = true → (alone s.stay).2 = true

theorem plays_none {L : List Ev} (C : List Int) : ∀ k, k ≤ L.length → (∀ e ∈ L.take k, e.kind ≠ 3) → NoGone (runs (L.take k)) (plays L C k)
  | 0, _, _ => ⟨rfl, rfl, rfl, rfl, fun _ => rfl⟩
  | k + 1, hk, h3 => by
    have ht := take_step (L := L) (k := k) (by omega)
    rw [ht] at h3 ⊢
    rw [runs_snoc]
    have ih := plays_none C k (by omega) (fun e he => h3 e (List.mem_append_left _ he))
    have hk3 : (L.getD k default).kind ≠ 3 := h3 _ (List.mem_append_right _ (by simp))
    show NoGone _ (pstep (L.take k) (plays L C k) (L.getD k default))
    generalize L.getD k default = e at hk3
    generalize plays L C k = s at ih
    generalize L.take k = P at ih
    unfold pstep
    generalize runs P = p at ih
    obtain ⟨i1, i2, i3, i4, i5⟩ := ih
    unfold run
    by_cases h1 : e.kind = 1
    · rw [if_pos h1, if_pos h1, if_neg (by rw [i3]; simp)]
      refine ⟨by rw [i1], by rw [i1, i2], i3, ?_, ?_⟩
      · show (alone (s.stay ++ [e.grt P])).1 = _
        rw [alone_snoc]; unfold aloneStep; rw [i4, grt_ws]
      · intro ht
        show (alone (s.stay ++ [e.grt P])).2 = true
        rw [alone_snoc]; unfold aloneStep
        simp only [Bool.and_eq_true] at ht ⊢
        rw [i4, grt_rs]
        exact ⟨i5 ht.1, ht.2⟩
    · rw [if_neg h1, if_neg h1, if_neg hk3]
      by_cases h4 : e.kind = 4
      · rw [if_pos h4, if_pos h4]
        refine ⟨i1, by rw [i1, i2], i3, i4, ?_⟩
        intro ht
        simp only [Bool.and_eq_true] at ht
        exact i5 ht.1
      · rw [if_neg h4, if_neg h4]
        exact ⟨i1, i2, i3, i4, i5⟩

theorem play_none {L : List Ev} (C : List Int) (h3 : ∀ e ∈ L, e.kind ≠ 3) : playOk L C = (runs L).2 := by
  have h := plays_none C L.length (Nat.le_refl _) (by rw [List.take_length]; exact h3)
  rw [List.take_length] at h
  unfold playOk
  rw [h.ok]
  cases hr : (runs L).2
  · rfl
  · rw [h.right hr]; rfl

theorem ways_none3 {L : List Ev} (h3 : ∀ e ∈ L, e.kind ≠ 3) : ∀ k, k ≤ L.length → ways L k = some 1 ∧ chs L k = []
  | 0, _ => ⟨rfl, rfl⟩
  | k + 1, hk => by
    obtain ⟨i1, i2⟩ := ways_none3 h3 k (by omega)
    have hk3 := h3 _ (getD_mem (L := L) (k := k) (by omega))
    constructor
    · unfold ways; rw [i1]; simp only [Option.bind_some]; rw [if_neg hk3]
    · unfold chs; rw [i2, if_neg hk3]; rfl

theorem not_bad {e : Ev} (h1 : 1 ≤ e.kind) (h4 : e.kind ≤ 4) : e.bad = false := by unfold Ev.bad; simp; omega

/-- a history without a Gone -/
theorem judge_plain {L : List Ev} (hk : ∀ e ∈ L, e.kind = 1 ∨ e.kind = 4) (hl : L.length ≤ 200) : cutsErr L = 0 ∧ judgeOk L = (runs L).2 := by
  have h3 : ∀ e ∈ L, e.kind ≠ 3 := fun e he => by rcases hk e he with h | h <;> omega
  obtain ⟨w1, w2⟩ := ways_none3 h3 L.length (Nat.le_refl _)
  have hb : L.any Ev.bad = false := by
    rw [List.any_eq_false]
    intro e he
    rw [not_bad (by rcases hk e he with h | h <;> omega) (by rcases hk e he with h | h <;> omega)]; simp
  have h0 : cutsErr L = 0 := by unfold cutsErr; rw [if_neg (by omega), if_neg (by rw [w1]; simp), hb]; rfl
  refine ⟨h0, ?_⟩
  unfold judgeOk
  rw [h0, w2]
  show (true && (List.range 1).any fun n => playOk L (pick [] n)) = _
  rw [show List.range 1 = [0] from rfl]
  simp only [List.any_cons, List.any_nil, Bool.or_false, Bool.true_and]
  exact play_none _ h3

/-! ### one Gone, and a Final -/
theorem plays_stay {L : List Ev} (C : List Int) : ∀ k, k ≤ L.length → (∀ e ∈ L.take k, e.kind ≠ 3) → (∀ e ∈ L.take k, e.kind = 1 → 0 < e.lsn) → (plays L C k).stay = (L.take k).filter (fun e => e.kind == 1) ∧ (plays L C k).cuts = C
  | 0, _, _, _ => ⟨rfl, rfl⟩
  | k + 1, hk, h3, h1 => by
    have hng := plays_none (L := L) C k (by omega) (fun e he => h3 e (by rw [take_step (by omega)]; exact List.mem_append_left _ he))
    have ht := take_step (L := L) (k := k) (by omega)
    rw [ht] at h3 h1 ⊢
    obtain ⟨i1, i2⟩ := plays_stay (L := L) C k (by omega) (fun e he => h3 e (List.mem_append_left _ he)) (fun e he => h1 e (List.mem_append_left _ he))
    have hk3 : (L.getD k default).kind ≠ 3 := h3 _ (List.mem_append_right _ (by simp))
    have hk1 := h1 (L.getD k default) (List.mem_append_right _ (by simp))
    show (pstep (L.take k) (plays L C k) (L.getD k default)).stay = _ ∧ (pstep (L.take k) (plays L C k) (L.getD k default)).cuts = _
    generalize L.getD k default = e at hk3 hk1
    have hg := hng.gone
    generalize plays L C k = s at i1 i2 hg
    generalize L.take k = P at i1
    unfold pstep
    rw [List.filter_append]
    by_cases h : e.kind = 1
    · rw [if_pos h, if_neg (by rw [hg]; simp), grt_self e P (hk1 h)]
      refine ⟨?_, i2⟩
      show s.stay ++ [e] = _
      rw [i1]; simp [h]
    · rw [if_neg h, if_neg hk3]
      have hf : List.filter (fun e : Ev => e.kind == 1) [e] = [] := by simp [h]
      rw [hf, List.append_nil]
      split
      · exact ⟨i1, i2⟩
      · exact ⟨i1, i2⟩

theorem play_gone {P : List Ev} {g fin : Ev} {c : Int} {C : List Int} (hg : g.kind = 3) (hf : fin.kind = 4) (h3 : ∀ e ∈ P, e.kind ≠ 3) (h1 : ∀ e ∈ P, e.kind = 1 → 0 < e.lsn) :
    playOk (P ++ [g, fin]) (c :: C) = ((runs P).2 && fin.rs.all (alone ((P.filter fun e => e.kind == 1).filter fun x => !gonep g.node g.epoch c x)).1.right && (alone ((P.filter fun e => e.kind == 1).filter fun x => !gonep g.node g.epoch c x)).2) := by
  obtain ⟨L, hL⟩ : ∃ L, P ++ [g, fin] = L := ⟨_, rfl⟩
  have hlen : L.length = P.length + 1 + 1 := by rw [← hL]; simp
  have ht : L.take P.length = P := by rw [← hL]; simp
  have hgd : L.getD P.length default = g := by rw [← hL, List.getD_eq_getElem?_getD]; simp
  have hfd : L.getD (P.length + 1) default = fin := by rw [← hL, List.getD_eq_getElem?_getD]; simp
  have hn := plays_none (L := L) (c :: C) P.length (by omega) (by rw [ht]; exact h3)
  obtain ⟨s1, s2⟩ := plays_stay (L := L) (c :: C) P.length (by omega) (by rw [ht]; exact h3) (by rw [ht]; exact h1)
  rw [ht] at hn s1
  rw [hL]
  unfold playOk
  rw [hlen]
  have e1 : plays L (c :: C) (P.length + 1) = pstep P (plays L (c :: C) P.length) g := by rw [plays, ht, hgd]
  have e2 : plays L (c :: C) (P.length + 1 + 1) = pstep (L.take (P.length + 1)) (plays L (c :: C) (P.length + 1)) fin := by rw [plays, hfd]
  rw [e2, e1]
  generalize plays L (c :: C) P.length = s at hn s1 s2
  generalize L.take (P.length + 1) = Q
  have hleft : s.left g = (P.filter fun e => e.kind == 1).filter fun x => !gonep g.node g.epoch c x := by
    unfold PSt.left; rw [s1, s2]; rfl
  have hp : pstep P s g = { s with f := (alone (s.left g)).1, stay := s.left g, gone := gput s.gone g.node g.epoch, cuts := s.cuts.tail } := by
    unfold pstep; rw [if_neg (by omega), if_pos hg]
  rw [hp]
  unfold pstep
  rw [if_neg (by omega), if_neg (by omega), if_pos hf]
  show (s.ok && fin.rs.all (alone (s.left g)).1.right && (alone (s.left g)).2) = _
  rw [hleft, hn.ok]

end Go.Proofs.YteokjobkjmibfaaGreat
