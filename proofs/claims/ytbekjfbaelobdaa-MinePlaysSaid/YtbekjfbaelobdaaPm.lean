/- The plain law of MinePlays: what the lease's own bookkeeping and the statement's bookkeeping have to do with each other, round by round. Condition: the numbers named in PInv. -/
import Derived.Test.YtbekjfbaelobdaaF
namespace Go.Proofs.Ytbekjfbaelobdaa

/-- what the statement's loop holds: the time, when it asked last, the end, when it asked, the lease -/
structure PS where
  now : Int
  last : Int
  en : Int
  L : List Int
  m : MS

structure PInv (T : Int) (k : Nat) (s : PS) : Prop where
  k100 : k ≤ 100
  t1 : 1 ≤ T
  t2 : T ≤ 100000
  mT : s.m.T = T
  mlast : s.m.last = s.L.length
  mn : s.m.n = s.L.length
  mf : ∀ j : Int, s.m.f j = if 1 ≤ j ∧ j ≤ s.L.length then some (s.L.getD (j - 1).toNat 0) else none
  lk : s.L.length ≤ k
  now0 : 0 ≤ s.now
  now1 : s.now ≤ 1000000 * k
  last0 : s.L = [] → s.last = -1
  last1 : s.L ≠ [] → s.last = s.m.at_ ∧ 0 ≤ s.last ∧ s.last ≤ s.now
  at0 : 0 ≤ s.m.at_ ∧ s.m.at_ ≤ s.now
  all : ∀ x ∈ s.L, 0 ≤ x ∧ x ≤ s.now
  en0 : s.m.g = false → s.en = 0
  en1 : s.m.g = true → s.en = s.m.en ∧ 1 ≤ s.en
  en2 : 0 ≤ s.en ∧ s.en ≤ s.now + 100000
  men : 0 ≤ s.m.en ∧ s.m.en ≤ s.now + 100000

theorem PInv.ok {T : Int} {k : Nat} {s : PS} (h : PInv T k s) : s.m.ok := by
  have := h.k100; have := h.lk; have := h.mlast; have := h.mn; have := h.now0; have := h.now1; have := h.at0; have := h.men; have := h.mT; have := h.t1; have := h.t2
  refine ⟨by omega, by omega, by omega, by omega, by omega, by omega, by omega, by omega, by omega, fun j c hj => ?_⟩
  rw [h.mf] at hj
  split at hj
  · rename_i hj2
    cases hj
    have hm : s.L.getD (j - 1).toNat 0 ∈ s.L := by
      rw [List.getD_eq_getElem?_getD, List.getElem?_eq_getElem (by omega)]
      exact List.getElem_mem _
    have := h.all _ hm
    omega
  · cases hj

theorem PInv.start (T : Int) (h1 : 1 ≤ T) (h2 : T ≤ 100000) : PInv T 0 { now := 0, last := -1, en := 0, L := [], m := { T := T, last := 0, at_ := 0, en := 0, g := false, n := 0, f := fun _ => none } } := by
  refine ⟨by omega, h1, h2, rfl, rfl, rfl, fun j => ?_, by simp, by simp, by simp, fun _ => rfl, fun h => absurd rfl h, by simp, by simp, fun _ => rfl, fun h => by simp at h, by simp, by simp⟩
  rw [if_neg (by simp; omega)]

/-- it is not time to ask -/
theorem PInv.askNo {T : Int} {k : Nat} {s : PS} (h : PInv T k s) (x : Int) (x0 : 0 ≤ x) (x1 : x ≤ 1000000) (hk : k < 100) (hno : s.m.no (s.now + x) = true) :
    PInv T (k + 1) { s with now := s.now + x } ∧ 0 ≤ s.last ∧ s.last ≤ s.now ∧ 4 * (s.now + x - s.last) < T := by
  have hs := h.mlast; have h3 := h.at0; have h4 := h.mT; have h5 := h.now0; have h6 := h.now1; have h7 := h.en2; have h8 := h.men; have h9 := h.lk; have t1 := h.t1
  simp only [MS.no, Bool.and_eq_true, decide_eq_true_eq] at hno
  obtain ⟨n1, n2⟩ := hno
  unfold leftOf at n2
  have hne : s.L ≠ [] := by intro e; rw [e] at hs; simp at hs; omega
  have hl := h.last1 hne
  refine ⟨⟨by omega, h.t1, h.t2, h.mT, h.mlast, h.mn, h.mf, by simp; omega, by simp; omega, by simp; omega, h.last0, fun e => ⟨(h.last1 e).1, (h.last1 e).2.1, by simp; omega⟩, by simp; omega, fun y hy => by have := h.all y hy; simp; omega, h.en0, h.en1, by simp; omega, by simp; omega⟩, by omega, by omega, ?_⟩
  split at n2 <;> omega

/-- it is time to ask -/
theorem PInv.askYes {T : Int} {k : Nat} {s : PS} (h : PInv T k s) (x : Int) (x0 : 0 ≤ x) (x1 : x ≤ 1000000) (hk : k < 100) (hno : s.m.no (s.now + x) = false) :
    PInv T (k + 1) { now := s.now + x, last := s.now + x, en := s.en, L := s.L ++ [s.now + x], m := s.m.ask (s.now + x) } ∧ (s.last = -1 ∨ (0 ≤ s.last ∧ s.last ≤ s.now ∧ T ≤ 4 * (s.now + x - s.last))) := by
  have hs := h.mlast; have hn := h.mn; have h3 := h.at0; have h4 := h.mT; have h5 := h.now0; have h6 := h.now1; have h7 := h.en2; have h8 := h.men; have h9 := h.lk; have t1 := h.t1
  refine ⟨⟨by omega, h.t1, h.t2, h.mT, by simp [MS.ask]; omega, by simp [MS.ask]; omega, fun j => ?_, by simp; omega, by simp; omega, by simp; omega, by simp, fun _ => ⟨rfl, by simp; omega, by simp⟩, by simp [MS.ask]; omega, fun y hy => ?_, h.en0, h.en1, by simp; omega, by simp [MS.ask]; omega⟩, ?_⟩
  · simp only [MS.ask, upd, List.length_append, List.length_singleton]
    by_cases e : j = s.m.last + 1
    · rw [if_pos e, if_pos (by omega)]
      congr 1
      rw [show (j - 1).toNat = s.L.length by omega]
      simp [List.getD]
    · rw [if_neg e, h.mf]
      by_cases hj : 1 ≤ j ∧ j ≤ s.L.length
      · rw [if_pos hj, if_pos (by omega)]
        congr 1
        simp only [List.getD_eq_getElem?_getD]
        rw [List.getElem?_append_left (by omega)]
      · rw [if_neg hj, if_neg (by omega)]
  · rcases List.mem_append.1 hy with hy | hy
    · have := h.all y hy; simp; omega
    · simp at hy; subst hy; simp; omega
  · by_cases hne : s.L = []
    · left; have := h.last0 hne; omega
    · have hl := h.last1 hne
      right
      refine ⟨hl.2.1, hl.2.2, ?_⟩
      have hlen : 0 < s.L.length := by cases hL : s.L with | nil => exact absurd hL hne | cons a r => simp
      simp only [MS.no, Bool.and_eq_false_iff, decide_eq_false_iff_not] at hno
      rcases hno with hno | hno
      · omega
      · unfold leftOf at hno
        split at hno <;> omega

/-- what was heard: no such stamp -/
theorem PInv.heardOut {T : Int} {k : Nat} {s : PS} (h : PInv T k s) (j : Int) (hj : j < 1 ∨ s.L.length < j) : s.m.f j = none := by
  rw [h.mf, if_neg (by omega)]
theorem PInv.heardIn {T : Int} {k : Nat} {s : PS} (h : PInv T k s) (j : Int) (h1 : 1 ≤ j) (h2 : j ≤ s.L.length) : s.m.f j = some (s.L.getD (j - 1).toNat 0) ∧ 0 ≤ s.L.getD (j - 1).toNat 0 ∧ s.L.getD (j - 1).toNat 0 ≤ s.now := by
  have hm : s.L.getD (j - 1).toNat 0 ∈ s.L := by
    rw [List.getD_eq_getElem?_getD, List.getElem?_eq_getElem (by omega)]
    exact List.getElem_mem _
  exact ⟨by rw [h.mf, if_pos ⟨h1, h2⟩], h.all _ hm⟩

theorem PInv.later {T : Int} {k : Nat} {s : PS} (h : PInv T k s) (a : Int) (a0 : 0 ≤ a) (a1 : a ≤ s.now) (hl : s.en < a + T) :
    PInv T k { s with en := a + T, m := { s.m with en := behind a s.m.T, g := true } } ∧ (s.m.g = false ∨ (s.m.g = true ∧ s.m.en < behind a s.m.T)) := by
  have h4 := h.mT; have h5 := h.now0; have h6 := h.now1; have t1 := h.t1; have t2 := h.t2; have hk := h.k100
  have eb : behind a s.m.T = a + T := by rw [h4]; exact (by unfold behind; rw [if_neg (by omega)])
  refine ⟨⟨h.k100, h.t1, h.t2, h.mT, h.mlast, h.mn, h.mf, h.lk, h.now0, h.now1, h.last0, h.last1, h.at0, h.all, fun e => by simp at e, fun _ => ⟨eb.symm, by simp; omega⟩, by simp; omega, by simp [eb]; omega⟩, ?_⟩
  cases hg : s.m.g with
  | false => exact .inl rfl
  | true => right; have := h.en1 hg; rw [eb]; exact ⟨rfl, by omega⟩

theorem PInv.notLater {T : Int} {k : Nat} {s : PS} (h : PInv T k s) (a : Int) (a0 : 0 ≤ a) (a1 : a ≤ s.now) (hl : a + T ≤ s.en) : s.m.g = true ∧ behind a s.m.T ≤ s.m.en := by
  have h4 := h.mT; have h5 := h.now0; have h6 := h.now1; have t1 := h.t1; have t2 := h.t2; have hk := h.k100
  have eb : behind a s.m.T = a + T := by rw [h4]; exact (by unfold behind; rw [if_neg (by omega)])
  cases hg : s.m.g with
  | false => have := h.en0 hg; omega
  | true => have := h.en1 hg; rw [eb]; exact ⟨rfl, by omega⟩

end Go.Proofs.Ytbekjfbaelobdaa
