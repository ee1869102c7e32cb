/- The plain law of Judge: places counted up as an odometer counts. No condition. -/
import Derived.Test.YteokjobkjmibfaaGreatI
namespace Go.Proofs.YteokjobkjmibfaaGreat
open Go.RowKit Go.Maps

/-- the n-th choice: a place in each list -/
def place : List (List Int) → Nat → List Nat
  | [], _ => []
  | c :: r, n => n % c.length :: place r (n / c.length)
def pick : List (List Int) → Nat → List Int
  | [], _ => []
  | c :: r, n => c.getD (n % c.length) 0 :: pick r (n / c.length)
/-- how many choices there are -/
def count : List (List Int) → Nat
  | [] => 1
  | c :: r => c.length * count r

theorem place_length : ∀ (X : List (List Int)) (n : Nat), (place X n).length = X.length
  | [], _ => rfl
  | c :: r, n => by simp [place, place_length r]
theorem pick_length : ∀ (X : List (List Int)) (n : Nat), (pick X n).length = X.length
  | [], _ => rfl
  | c :: r, n => by simp [pick, pick_length r]

theorem place_lt : ∀ (X : List (List Int)) (_ : ∀ c ∈ X, 0 < c.length) (n k : Nat), k < X.length → (place X n).getD k 0 < (X.getD k []).length
  | [], _, _, k, hk => by simp at hk
  | c :: r, h, n, 0, _ => by simp [place]; exact Nat.mod_lt _ (h c (by simp))
  | c :: r, h, n, k + 1, hk => by
    have := place_lt r (fun x hx => h x (List.mem_cons_of_mem _ hx)) (n / c.length) k (by simpa using hk)
    simpa [place] using this

theorem pick_at : ∀ (X : List (List Int)) (n k : Nat), k < X.length → (pick X n).getD k 0 = (X.getD k []).getD ((place X n).getD k 0) 0
  | [], _, k, hk => by simp at hk
  | c :: r, n, 0, _ => by simp [pick, place]
  | c :: r, n, k + 1, hk => by
    have := pick_at r (n / c.length) k (by simpa using hk)
    simpa [pick, place] using this

theorem pick_mem : ∀ (X : List (List Int)) (_ : ∀ c ∈ X, 0 < c.length) (n : Nat) (x : Int), x ∈ pick X n → ∃ c ∈ X, x ∈ c
  | [], _, _, x, hx => by simp [pick] at hx
  | c :: r, h, n, x, hx => by
    have hx' : x = c.getD (n % c.length) 0 ∨ x ∈ pick r (n / c.length) := List.mem_cons.1 hx
    rcases hx' with rfl | hx'
    · have hm := Nat.mod_lt n (h c (by simp))
      refine ⟨c, by simp, ?_⟩
      rw [List.getD_eq_getElem?_getD, List.getElem?_eq_getElem hm]
      exact List.getElem_mem _
    · obtain ⟨d, hd, hx2⟩ := pick_mem r (fun y hy => h y (List.mem_cons_of_mem _ hy)) _ _ hx'
      exact ⟨d, List.mem_cons_of_mem _ hd, hx2⟩

theorem place_zero : ∀ (X : List (List Int)), place X 0 = List.replicate X.length 0
  | [] => rfl
  | c :: r => by simp [place, place_zero r, List.replicate_succ]

theorem count_pos : ∀ (X : List (List Int)), (∀ c ∈ X, 0 < c.length) → 0 < count X
  | [], _ => by decide
  | c :: r, h => Nat.mul_pos (h c (by simp)) (count_pos r (fun x hx => h x (List.mem_cons_of_mem _ hx)))

theorem divmod_succ_wrap {n m : Nat} (hm : 0 < m) (h : n % m = m - 1) : (n + 1) % m = 0 ∧ (n + 1) / m = n / m + 1 := by
  have h1 := Nat.div_add_mod n m
  have h2 : n + 1 = m * (n / m + 1) := by rw [Nat.mul_add]; omega
  rw [h2]
  exact ⟨Nat.mul_mod_right _ _, Nat.mul_div_cancel_left _ hm⟩
theorem divmod_succ {n m : Nat} (hm : 0 < m) (h : n % m ≠ m - 1) : (n + 1) % m = n % m + 1 ∧ (n + 1) / m = n / m := by
  have h0 := Nat.mod_lt n hm
  have h1 := Nat.div_add_mod n m
  have h2 : n + 1 = (n % m + 1) + m * (n / m) := by omega
  constructor
  · rw [h2, Nat.add_mul_mod_self_left]; exact Nat.mod_eq_of_lt (by omega)
  · rw [h2, Nat.add_mul_div_left _ _ hm, Nat.div_eq_of_lt (by omega), Nat.zero_add]

/-- the first i places are at their ends, and turn to 0 -/
theorem place_carry : ∀ (X : List (List Int)) (_ : ∀ c ∈ X, 0 < c.length) (n i : Nat), i < X.length → (∀ j, j < i → (place X n).getD j 0 = (X.getD j []).length - 1) → (place X n).getD i 0 ≠ (X.getD i []).length - 1 →
    place X (n + 1) = (List.replicate i 0 ++ (place X n).drop i).set i ((place X n).getD i 0 + 1)
  | [], _, _, i, hi, _, _ => by simp at hi
  | c :: r, h, n, 0, _, _, h1 => by
    have hm := h c (by simp)
    have h2 : n % c.length ≠ c.length - 1 := by simpa [place] using h1
    obtain ⟨e1, e2⟩ := divmod_succ hm h2
    simp [place, e1, e2]
  | c :: r, h, n, i + 1, hi, h0, h1 => by
    have hm := h c (by simp)
    have h2 : n % c.length = c.length - 1 := by simpa [place] using h0 0 (by omega)
    obtain ⟨e1, e2⟩ := divmod_succ_wrap hm h2
    have := place_carry r (fun x hx => h x (List.mem_cons_of_mem _ hx)) (n / c.length) i (by simpa using hi) (fun j hj => by simpa [place] using h0 (j + 1) (by omega)) (by simpa [place] using h1)
    simp [place, e1, e2, this, List.replicate_succ]

theorem place_last : ∀ (X : List (List Int)) (_ : ∀ c ∈ X, 0 < c.length) (n : Nat), n < count X → (∀ j, j < X.length → (place X n).getD j 0 = (X.getD j []).length - 1) → n + 1 = count X
  | [], _, n, hn, _ => by simp [count] at hn ⊢; exact hn
  | c :: r, h, n, hn, h0 => by
    have hm := h c (by simp)
    have h2 : n % c.length = c.length - 1 := by simpa [place] using h0 0 (by simp)
    obtain ⟨_, e2⟩ := divmod_succ_wrap hm h2
    have hd : n / c.length < count r := by
      rw [Nat.div_lt_iff_lt_mul hm, Nat.mul_comm]; exact hn
    have := place_last r (fun x hx => h x (List.mem_cons_of_mem _ hx)) (n / c.length) hd (fun j hj => by simpa [place] using h0 (j + 1) (by simpa using hj))
    have h1 := Nat.div_add_mod n c.length
    show n + 1 = c.length * count r
    rw [← this, Nat.mul_add]
    omega

theorem place_more : ∀ (X : List (List Int)) (_ : ∀ c ∈ X, 0 < c.length) (n i : Nat), n < count X → i < X.length → (place X n).getD i 0 ≠ (X.getD i []).length - 1 → n + 1 < count X
  | [], _, _, i, _, hi, _ => by simp at hi
  | c :: r, h, n, i, hn, hi, h1 => by
    have hm := h c (by simp)
    rcases Nat.lt_or_ge (n + 1) (count (c :: r)) with hlt | hge
    · exact hlt
    · exfalso
      have he : n + 1 = count (c :: r) := by omega
      have hall : ∀ (X : List (List Int)) (_ : ∀ c ∈ X, 0 < c.length) (n : Nat), n + 1 = count X → ∀ i, i < X.length → (place X n).getD i 0 = (X.getD i []).length - 1 := by
        intro X
        induction X with
        | nil => intro _ _ _ i hi; simp at hi
        | cons c r ih =>
          intro h n he i hi
          have hm := h c (by simp)
          have hc := count_pos r (fun x hx => h x (List.mem_cons_of_mem _ hx))
          have hcn : count (c :: r) = c.length * count r := rfl
          rw [hcn] at he
          obtain ⟨q, hq⟩ : ∃ q, count r = q + 1 := ⟨count r - 1, by omega⟩
          have hn : n = (c.length - 1) + c.length * q := by rw [hq, Nat.mul_add] at he; omega
          have hmod : n % c.length = c.length - 1 := by rw [hn, Nat.add_mul_mod_self_left]; exact Nat.mod_eq_of_lt (by omega)
          have hdiv : n / c.length = q := by rw [hn, Nat.add_mul_div_left _ _ hm, Nat.div_eq_of_lt (by omega), Nat.zero_add]
          cases i with
          | zero => simpa [place] using hmod
          | succ i =>
            have := ih (fun x hx => h x (List.mem_cons_of_mem _ hx)) q hq.symm i (by simpa using hi)
            simpa [place, hdiv] using this
      exact h1 (hall _ h n he i hi)

/-- is there a choice of cuts with which all is right? -/
def judgeOk (L : List Ev) : Bool := cutsErr L == 0 && (List.range (count (chs L L.length))).any fun n => playOk L (pick (chs L L.length) n)

theorem chs_full (L : List Ev) (h : ∀ e ∈ L, e.ok) : ∀ k, ∀ c ∈ chs L k, 0 < c.length ∧ ∀ x ∈ c, 0 ≤ x
  | 0, c, hc => by simp [chs] at hc
  | k + 1, c, hc => by
    unfold chs at hc
    rcases List.mem_append.1 hc with hc | hc
    · exact chs_full L h k c hc
    · split at hc
      · rw [List.mem_singleton.1 hc]
        have := lohi h k
        refine ⟨by rw [rng_length]; omega, fun x hx => ?_⟩
        unfold rng at hx
        obtain ⟨i, _, rfl⟩ := List.mem_map.1 hx
        omega
      · simp at hc

end Go.Proofs.YteokjobkjmibfaaGreat
