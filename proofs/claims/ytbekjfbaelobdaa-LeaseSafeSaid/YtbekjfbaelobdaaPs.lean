/- The plain law of LeaseSafe: two clocks that keep their bound, a lease of one's own and a table that grants twice its term. Conditions: those that each law names. -/
import Derived.Test.YtbekjfbaelobdaaU
import Derived.Test.YtbekjfbaelobdaaF
namespace Go.Proofs.Ytbekjfbaelobdaa

/-- the time behind c steps -/
def tm (h : List Int) (c : Nat) : Int := (h.take c).sum

theorem tm_all (h : List Int) : tm h h.length = h.sum := by unfold tm; rw [List.take_length]
theorem tm_succ (h : List Int) (c : Nat) (hc : c < h.length) : tm h (c + 1) = tm h c + h.getD c 0 := tail_sum h c hc

/-- a clock that has kept its bound -/
structure CInv (h : List Int) (s : CS) : Prop where
  now : s.now = h.sum
  real : s.real = h.length
  L : s.L = h.drop (h.length - 8)
  kept : s.broken = false
  all : ∀ x ∈ h, 0 ≤ x ∧ x ≤ 8
  win : ∀ j, j + 8 ≤ h.length → 7 ≤ tm h (j + 8) - tm h j ∧ tm h (j + 8) - tm h j ≤ 9

theorem CInv.start : CInv [] { now := 0, real := 0, L := [], broken := false } := ⟨rfl, rfl, rfl, rfl, by simp, fun j hj => by simp at hj⟩

theorem CInv.ok {h : List Int} {s : CS} (hi : CInv h s) (hl : h.length ≤ 1000) : s.ok := by
  have h1 := hi.now; have h2 := hi.real; have h3 := sum_range h hi.all
  refine ⟨by omega, by omega, by omega, by omega, by rw [hi.L]; simp; omega, fun x hx => ?_⟩
  rw [hi.L] at hx
  exact hi.all x (List.mem_of_mem_drop hx)

theorem tm_append (h : List Int) (y : Int) (c : Nat) (hc : c ≤ h.length) : tm (h ++ [y]) c = tm h c := by
  unfold tm; rw [List.take_append_of_le_length hc]

theorem put_eq {h : List Int} {s : CS} (hL : s.L = h.drop (h.length - 8)) (x : Int) : s.put x = (h ++ [min (max x 0) 8]).drop ((h ++ [min (max x 0) 8]).length - 8) := by
  unfold CS.put
  by_cases h8 : 8 ≤ h.length
  · have hl : s.L.length = 8 := by rw [hL]; simp; omega
    rw [if_pos hl, hL]
    simp only [List.length_append, List.length_singleton, List.tail_drop]
    rw [List.drop_append_of_le_length (by omega)]
    congr 2
    omega
  · have hl : ¬ s.L.length = 8 := by rw [hL]; simp; omega
    rw [if_neg hl, hL]
    simp only [List.length_append, List.length_singleton]
    rw [show h.length - 8 = 0 by omega, show h.length + 1 - 8 = 0 by omega]
    rfl

theorem sum_drop (h : List Int) (j : Nat) : (h.drop j).sum = h.sum - tm h j := by
  have : (h.take j ++ h.drop j).sum = h.sum := by rw [List.take_append_drop]
  rw [List.sum_append] at this
  unfold tm
  omega

theorem CInv.step {h : List Int} {s : CS} (hi : CInv h s) (x : Int) (hk : (s.step x).broken = false) : CInv (h ++ [min (max x 0) 8]) (s.step x) := by
  have hput := put_eq hi.L x
  refine ⟨by simp [CS.step, hi.now], by simp [CS.step, hi.real], by simp only [CS.step]; exact hput, hk, fun y hy => ?_, fun j hj => ?_⟩
  · rcases List.mem_append.1 hy with hy | hy
    · exact hi.all y hy
    · simp at hy; omega
  · simp only [List.length_append, List.length_singleton] at hj
    by_cases hl : j + 8 ≤ h.length
    · rw [tm_append _ _ _ hl, tm_append _ _ _ (by omega)]; exact hi.win j hl
    · have hj2 : j + 8 = h.length + 1 := by omega
      simp only [CS.step, Bool.or_eq_false_iff] at hk
      have hb := hk.2
      rw [hput] at hb
      simp only [CS.bad, Bool.and_eq_false_iff, Bool.or_eq_false_iff, decide_eq_false_iff_not] at hb
      have hlen : ((h ++ [min (max x 0) 8]).drop ((h ++ [min (max x 0) 8]).length - 8)).length = 8 := by simp; omega
      rcases hb with hb | ⟨hb1, hb2⟩
      · exact absurd hlen hb
      · rw [sum_drop] at hb1 hb2
        have e1 : (h ++ [min (max x 0) 8]).length - 8 = j := by simp; omega
        have e2 : tm (h ++ [min (max x 0) 8]) (j + 8) = (h ++ [min (max x 0) 8]).sum := by rw [hj2, ← tm_all]; simp
        rw [e1] at hb1 hb2
        rw [e2]; omega

theorem CInv.mono {h : List Int} {s : CS} (hi : CInv h s) : ∀ (n j : Nat), j + n ≤ h.length → tm h j ≤ tm h (j + n)
  | 0, j, _ => by simp
  | n + 1, j, hj => by
    have h1 := CInv.mono hi n j (by omega)
    have h2 := tm_succ h (j + n) (by omega)
    have h3 := hi.all (h.getD (j + n) 0) (by rw [List.getD_eq_getElem?_getD, List.getElem?_eq_getElem (by omega)]; exact List.getElem_mem _)
    rw [show j + (n + 1) = j + n + 1 by omega, h2]; omega

theorem CInv.crude {h : List Int} {s : CS} (hi : CInv h s) : ∀ (n j : Nat), j + n ≤ h.length → tm h (j + n) ≤ tm h j + 8 * n
  | 0, j, _ => by simp
  | n + 1, j, hj => by
    have h1 := CInv.crude hi n j (by omega)
    have h2 := tm_succ h (j + n) (by omega)
    have h3 := hi.all (h.getD (j + n) 0) (by rw [List.getD_eq_getElem?_getD, List.getElem?_eq_getElem (by omega)]; exact List.getElem_mem _)
    rw [show j + (n + 1) = j + n + 1 by omega, h2]; omega

/-- at least 7 in each 8 -/
theorem CInv.lower {h : List Int} {s : CS} (hi : CInv h s) : ∀ (m j : Nat), j + 8 * m ≤ h.length → tm h j + 7 * m ≤ tm h (j + 8 * m)
  | 0, j, _ => by simp
  | m + 1, j, hj => by
    have h1 := CInv.lower hi m j (by omega)
    have h2 := hi.win (j + 8 * m) (by omega)
    rw [show j + 8 * (m + 1) = j + 8 * m + 8 by omega]; omega

/-- at most 9 in each 8 that have begun, where there are 8 -/
theorem CInv.upper {h : List Int} {s : CS} (hi : CInv h s) (h8 : 8 ≤ h.length) : ∀ (m j r : Nat), r < 8 → j + (8 * m + r) = h.length → h.sum ≤ tm h j + 9 * (m + 1)
  | 0, j, r, hr, hj => by
    have h1 := hi.win (h.length - 8) (by omega)
    rw [show h.length - 8 + 8 = h.length by omega, tm_all] at h1
    have h2 := hi.mono (8 - r) (h.length - 8) (by omega)
    rw [show h.length - 8 + (8 - r) = j by omega] at h2
    simp; omega
  | m + 1, j, r, hr, hj => by
    have h1 := CInv.upper hi h8 m (j + 8) r hr (by omega)
    have h2 := hi.win j (by omega)
    have : ((m + 1 : Nat) : Int) = (m : Int) + 1 := by omega
    rw [this]; omega

/-- THE CLOCKS' LAW -/
theorem clocks {hA hB : List Int} {sA sB : CS} (iA : CInv hA sA) (iB : CInv hB sB) (hl : hA.length = hB.length) (T : Int) (hT : 32 ≤ T) (j : Nat) (hj : j ≤ hA.length)
    (h1 : hA.sum < tm hA j + T) (h2 : tm hB j + 2 * T ≤ hB.sum) : False := by
  obtain ⟨m, r, hr, hmr⟩ : ∃ m r, r < 8 ∧ j + (8 * m + r) = hA.length := ⟨(hA.length - j) / 8, (hA.length - j) % 8, by omega, by omega⟩
  have l1 := iA.lower m j (by omega)
  have l2 := iA.mono r (j + 8 * m) (by omega)
  rw [show j + 8 * m + r = hA.length by omega, tm_all] at l2
  by_cases h8 : 8 ≤ hB.length
  · have u1 := iB.upper h8 m j r hr (by omega)
    omega
  · have u1 := iB.crude (8 * m + r) j (by omega)
    rw [show j + (8 * m + r) = hB.length by omega, tm_all] at u1
    omega


/-- what the statement's loop holds: how the clocks went; the lease, the table; of each word: at which step it was asked, and when it comes -/
structure LS where
  hA : List Int
  hB : List Int
  sA : CS
  sB : CS
  m : MS
  f : Int → Option Int
  cs : List Nat
  ats : List Int

/-- c: how many steps were done; D: which words have come -/
structure LInv (term : Int) (c : Nat) (D : Nat → Prop) (s : LS) : Prop where
  t1 : 32 ≤ term
  t2 : term ≤ 200
  c1 : c ≤ 300
  lA : s.hA.length = c
  lB : s.hB.length = c
  iA : CInv s.hA s.sA
  iB : CInv s.hB s.sB
  mok : s.m.ok
  mT : s.m.T = term
  mlast : s.m.last = s.ats.length
  mn : s.m.n = s.ats.length
  lc : s.cs.length = s.ats.length
  la : s.ats.length ≤ c
  ask : ∀ j, j < s.ats.length → s.m.f ((j : Int) + 1) = some (tm s.hA (s.cs.getD j 0)) ∧ s.cs.getD j 0 ≤ c ∧ (s.cs.getD j 0 : Int) ≤ s.ats.getD j 0 + 1
  atb : ∀ j, j < s.ats.length → 0 ≤ s.ats.getD j 0 ∧ s.ats.getD j 0 ≤ 1000
  f1 : ∀ x, x ≠ 1 → s.f x = none
  fr : ∀ e, s.f 1 = some e → 0 ≤ e ∧ e ≤ 1000000
  p1 : ∀ j, j < s.ats.length → D j → ∃ e, s.f 1 = some e ∧ tm s.hB (s.cs.getD j 0) + 2 * term ≤ e
  p2 : s.m.g = true → ∃ j, j < s.ats.length ∧ D j ∧ s.m.en = tm s.hA (s.cs.getD j 0) + term

theorem CInv.bound {h : List Int} {s : CS} (hi : CInv h s) (hl : h.length ≤ 300) (c : Nat) (hc : c ≤ h.length) : 0 ≤ tm h c ∧ tm h c ≤ 2400 := by
  have h1 := hi.mono c 0 (by omega)
  have h2 := hi.crude c 0 (by omega)
  rw [Nat.zero_add] at h1 h2
  have h0 : tm h 0 = 0 := rfl
  omega

theorem LInv.nowA {term : Int} {c : Nat} {D : Nat → Prop} {s : LS} (h : LInv term c D s) : s.sA.now = s.hA.sum ∧ 0 ≤ s.sA.now ∧ s.sA.now ≤ 2400 := by
  have h1 := h.iA.now; have := h.iA.bound (by have := h.lA; have := h.c1; omega) s.hA.length (Nat.le_refl _)
  rw [tm_all] at this
  omega
theorem LInv.nowB {term : Int} {c : Nat} {D : Nat → Prop} {s : LS} (h : LInv term c D s) : s.sB.now = s.hB.sum ∧ 0 ≤ s.sB.now ∧ s.sB.now ≤ 2400 := by
  have h1 := h.iB.now; have := h.iB.bound (by have := h.lB; have := h.c1; omega) s.hB.length (Nat.le_refl _)
  rw [tm_all] at this
  omega

/-- a step of both clocks -/
theorem LInv.steps {term : Int} {c : Nat} {D : Nat → Prop} {s : LS} (h : LInv term c D s) (hc : c < 300) (x y : Int) (kA : (s.sA.step x).broken = false) (kB : (s.sB.step y).broken = false) :
    LInv term (c + 1) D { s with hA := s.hA ++ [min (max x 0) 8], hB := s.hB ++ [min (max y 0) 8], sA := s.sA.step x, sB := s.sB.step y } := by
  have lA := h.lA; have lB := h.lB
  refine ⟨h.t1, h.t2, by omega, by simp; omega, by simp; omega, h.iA.step x kA, h.iB.step y kB, h.mok, h.mT, h.mlast, h.mn, h.lc, by have := h.la; simp; omega, fun j hj => ?_, h.atb, h.f1, h.fr, fun j hj hD => ?_, fun hg => ?_⟩
  · have := h.ask j hj
    simp only
    rw [tm_append _ _ _ (by omega)]
    exact ⟨this.1, by omega, this.2.2⟩
  · have := h.p1 j hj hD
    have h2 := h.ask j hj
    simp only
    rw [tm_append _ _ _ (by omega)]
    exact this
  · obtain ⟨j, hj, hD, he⟩ := h.p2 hg
    have h2 := h.ask j hj
    refine ⟨j, hj, hD, ?_⟩
    simp only
    rw [tm_append _ _ _ (by omega)]
    exact he

/-- a question: one word more, that comes at a -/
theorem LInv.asked {term : Int} {c : Nat} {s : LS} (h : LInv term (c + 1) (fun j => s.ats.getD j 0 < c) s) (hl : s.ats.length ≤ c) (a : Int) (ha : (c : Int) ≤ a) (ha2 : a ≤ 1000) :
    LInv term (c + 1) (fun j => (s.ats ++ [a]).getD j 0 < c) { s with m := s.m.ask s.sA.now, cs := s.cs ++ [c + 1], ats := s.ats ++ [a] } := by
  have hlc := h.lc; have hn := h.mn; have hlast := h.mlast; have hA := h.nowA; have hc1 := h.c1
  have g1 : ∀ j, j < s.ats.length → (s.ats ++ [a]).getD j 0 = s.ats.getD j 0 := fun j hj => by
    rw [List.getD_eq_getElem?_getD, List.getD_eq_getElem?_getD, List.getElem?_append_left hj]
  have g2 : ∀ j, j < s.ats.length → (s.cs ++ [c + 1]).getD j 0 = s.cs.getD j 0 := fun j hj => by
    rw [List.getD_eq_getElem?_getD, List.getD_eq_getElem?_getD, List.getElem?_append_left (by omega)]
  have g3 : (s.ats ++ [a]).getD s.ats.length 0 = a := by simp [List.getD]
  have g4 : (s.cs ++ [c + 1]).getD s.ats.length 0 = c + 1 := by rw [← hlc]; simp [List.getD]
  refine ⟨h.t1, h.t2, h.c1, h.lA, h.lB, h.iA, h.iB, MS.ask_ok h.mok (by omega) _ (by omega) (by omega), h.mT, by simp [MS.ask]; omega, by simp [MS.ask]; omega, by simp; omega, by simp; omega, fun j hj => ?_, fun j hj => ?_, h.f1, h.fr, fun j hj hD => ?_, fun hg => ?_⟩
  · simp only [List.length_append, List.length_singleton] at hj
    by_cases e : j < s.ats.length
    · have := h.ask j e
      simp only
      rw [g1 j e, g2 j e]
      refine ⟨?_, this.2⟩
      simp only [MS.ask, upd]
      rw [if_neg (by omega)]; exact this.1
    · obtain rfl : j = s.ats.length := by omega
      simp only
      rw [g3, g4]
      refine ⟨?_, by omega, by omega⟩
      simp only [MS.ask, upd]
      rw [if_pos (by omega), hA.1, ← h.lA, tm_all]
  · simp only [List.length_append, List.length_singleton] at hj
    by_cases e : j < s.ats.length
    · simp only; rw [g1 j e]; exact h.atb j e
    · obtain rfl : j = s.ats.length := by omega
      simp only; rw [g3]; omega
  · simp only [List.length_append, List.length_singleton] at hj
    by_cases e : j < s.ats.length
    · simp only at hD ⊢
      rw [g1 j e] at hD; rw [g2 j e]; exact h.p1 j e hD
    · obtain rfl : j = s.ats.length := by omega
      rw [g3] at hD; omega
  · obtain ⟨j, hj, hD, he⟩ := h.p2 hg
    refine ⟨j, by simp; omega, ?_, ?_⟩
    · rw [g1 j hj]; exact hD
    · simp only; rw [g2 j hj]; exact he

/-- which words have come in the midst of the inner loop, at its k-th word -/
def Dk (ats : List Int) (i k : Nat) (j : Nat) : Prop := ats.getD j 0 < i ∨ (ats.getD j 0 = i ∧ j < k)

theorem LInv.weaken {term : Int} {c : Nat} {D D' : Nat → Prop} {s : LS} (h : LInv term c D s) (hD : ∀ j, j < s.ats.length → (D j ↔ D' j)) : LInv term c D' s :=
  ⟨h.t1, h.t2, h.c1, h.lA, h.lB, h.iA, h.iB, h.mok, h.mT, h.mlast, h.mn, h.lc, h.la, h.ask, h.atb, h.f1, h.fr, fun j hj hd => h.p1 j hj ((hD j hj).2 hd), fun hg => by
    obtain ⟨j, hj, hd, he⟩ := h.p2 hg
    exact ⟨j, hj, (hD j hj).1 hd, he⟩⟩

/-- the k-th word does not come now -/
theorem LInv.pass {term : Int} {c i k : Nat} {s : LS} (h : LInv term c (Dk s.ats i k) s) (hk : s.ats.getD k 0 ≠ i) : LInv term c (Dk s.ats i (k + 1)) s :=
  h.weaken fun j _ => by
    unfold Dk
    constructor
    · rintro (h | ⟨h1, h2⟩)
      · exact .inl h
      · exact .inr ⟨h1, by omega⟩
    · rintro (h | ⟨h1, h2⟩)
      · exact .inl h
      · by_cases e : j = k
        · subst e; exact absurd h1 hk
        · exact .inr ⟨h1, by omega⟩

/-- the k-th word comes: the table grants the lease anew, or holds a later time already -/
theorem LInv.come {term : Int} {c k : Nat} {s : LS} (h : LInv term (c + 1) (Dk s.ats c k) s) (f' : Int → Option Int)
    (hf : (f' = upd s.f 1 (s.sB.now + 2 * term) ∧ ∀ e, s.f 1 = some e → e < s.sB.now + 2 * term) ∨ (f' = s.f ∧ ∃ e, s.f 1 = some e ∧ s.sB.now + 2 * term ≤ e)) :
    LInv term (c + 1) (Dk s.ats c (k + 1)) { s with f := f' } := by
  have hB := h.nowB; have t1 := h.t1; have t2 := h.t2
  have key : ∃ e, f' 1 = some e ∧ s.sB.now + 2 * term ≤ e ∧ 0 ≤ e ∧ e ≤ 1000000 ∧ (∀ e0, s.f 1 = some e0 → e0 ≤ e) ∧ ∀ x, x ≠ 1 → f' x = none := by
    rcases hf with ⟨rfl, hlt⟩ | ⟨rfl, e, he, hle⟩
    · refine ⟨s.sB.now + 2 * term, by simp [upd], Int.le_refl _, by omega, by omega, fun e0 h0 => by have := hlt e0 h0; omega, fun x hx => by simp [upd, hx]; exact h.f1 x hx⟩
    · exact ⟨e, he, hle, (h.fr e he).1, (h.fr e he).2, fun e0 h0 => by rw [he] at h0; cases h0; omega, h.f1⟩
  obtain ⟨e, he, hle, e0, e1, hmax, hx⟩ := key
  refine ⟨h.t1, h.t2, h.c1, h.lA, h.lB, h.iA, h.iB, h.mok, h.mT, h.mlast, h.mn, h.lc, h.la, h.ask, h.atb, hx, fun e2 h2 => by simp only at h2; rw [he] at h2; cases h2; omega, fun j hj hd => ?_, fun hg => ?_⟩
  · refine ⟨e, he, ?_⟩
    have ha := h.ask j hj
    have hm := h.iB.mono (s.hB.length - s.cs.getD j 0) (s.cs.getD j 0) (by have := h.lB; omega)
    rw [show s.cs.getD j 0 + (s.hB.length - s.cs.getD j 0) = s.hB.length by have := h.lB; omega, tm_all] at hm
    simp only
    omega
  · obtain ⟨j, hj, hd, he⟩ := h.p2 hg
    refine ⟨j, hj, ?_, he⟩
    rcases hd with hd | ⟨h1, h2⟩
    · exact .inl hd
    · exact .inr ⟨h1, by omega⟩

/-- it is heard of the k-th word, which has come -/
theorem LInv.heard {term : Int} {c i k : Nat} {s : LS} (h : LInv term c (Dk s.ats i (k + 1)) s) (hk : k < s.ats.length) (ha : s.ats.getD k 0 ≤ i) :
    LInv term c (Dk s.ats i (k + 1)) { s with m := s.m.heard ((k : Int) + 1) } := by
  have hask := h.ask k hk
  have hbd := h.iA.bound (by have := h.lA; have := h.c1; omega) (s.cs.getD k 0) (by have := h.lA; omega)
  have e0 : (s.m.heard ((k : Int) + 1)).f = s.m.f ∧ (s.m.heard ((k : Int) + 1)).T = s.m.T ∧ (s.m.heard ((k : Int) + 1)).last = s.m.last ∧ (s.m.heard ((k : Int) + 1)).n = s.m.n := by
    unfold MS.heard; split <;> exact ⟨rfl, rfl, rfl, rfl⟩
  refine ⟨h.t1, h.t2, h.c1, h.lA, h.lB, h.iA, h.iB, MS.heard_ok h.mok _, by simp only; rw [e0.2.1]; exact h.mT, by simp only; rw [e0.2.2.1]; exact h.mlast, by simp only; rw [e0.2.2.2]; exact h.mn, h.lc, h.la, fun j hj => by simp only; rw [e0.1]; exact h.ask j hj, h.atb, h.f1, h.fr, h.p1, fun hg => ?_⟩
  simp only [MS.heard] at hg ⊢
  split at hg
  · rename_i hb
    rw [if_pos hb]
    refine ⟨k, hk, ?_, ?_⟩
    · by_cases e : s.ats.getD k 0 = i
      · exact .inr ⟨e, by omega⟩
      · exact .inl (by omega)
    · simp only
      rw [hask.1]
      have := h.t2; have := h.t1
      simp only [Option.getD_some, h.mT]
      unfold behind; rw [if_neg (by omega)]
  · rename_i hb
    rw [if_neg hb]
    exact h.p2 hg

/-- W3's lease: never late and good at once -/
theorem LInv.safe {term : Int} {c : Nat} {D : Nat → Prop} {s : LS} (h : LInv term c D s) (e : Int) (he : s.f 1 = some e) (hlate : e ≤ s.sB.now) : (s.m.g && decide (s.sA.now < s.m.en)) = false := by
  cases hg : s.m.g with
  | false => rfl
  | true =>
    obtain ⟨j, hj, hd, hen⟩ := h.p2 hg
    obtain ⟨e2, he2, hle⟩ := h.p1 j hj hd
    rw [he] at he2; cases he2
    have ha := h.ask j hj
    by_cases hlt : s.sA.now < s.m.en
    · exact (clocks h.iA h.iB (by have := h.lA; have := h.lB; omega) term h.t1 (s.cs.getD j 0) (by have := h.lA; omega) (by have := h.nowA; omega) (by have := h.nowB; omega)).elim
    · simp; omega

end Go.Proofs.Ytbekjfbaelobdaa
