/- The plain law of HistVanish: a node's commits, some of them synced, its end, and what is read then. Conditions: those that each law names. -/
import Derived.Test.YteokjobkjmibfaaX
namespace Go.Proofs.Yteokjobkjmibfaa
open Go.RowKit Go.Maps

def comE (j : Nat) (wa : Option Addr) : Ev := ⟨1, 1, 4, (j : Int) + 1, [], [⟨(j : Int) + 1, 0, oneStr ((j : Int) + 1)⟩], none, 0, wa, 1⟩
def coms (f : Nat → Option Addr) (k : Nat) : List Ev := (List.range k).map fun j => comE j (f j)
def synE (s : Int) : Ev := ⟨2, 1, 4, s, [], [], none, 0, none, 0⟩
def rdE (n : Int) (ra : Option Addr) : Ev := ⟨1, 2, 5, 1, [⟨n, 0, oneStr n⟩], [], ra, 1, none, 0⟩
def goneE : Ev := ⟨3, 1, 4, 0, [], [], none, 0, none, 0⟩
def vanP (f : Nat → Option Addr) (n : Nat) (s : Int) (read : Bool) (ra : Option Addr) : List Ev := coms f n ++ (if 0 < s then [synE s] else []) ++ (if read then [rdE n ra] else [])

theorem coms_succ (f : Nat → Option Addr) (k : Nat) : coms f (k + 1) = coms f k ++ [comE k (f k)] := by unfold coms; rw [List.range_succ, List.map_append]; rfl
theorem coms_length (f : Nat → Option Addr) (k : Nat) : (coms f k).length = k := by unfold coms; simp
theorem coms_ext {f g : Nat → Option Addr} {k : Nat} (h : ∀ j, j < k → f j = g j) : coms f k = coms g k := by
  unfold coms
  refine List.map_congr_left fun j hj => ?_
  rw [h j (List.mem_range.1 hj)]
theorem mem_coms {f : Nat → Option Addr} {k : Nat} {e : Ev} (h : e ∈ coms f k) : ∃ j, j < k ∧ e = comE j (f j) := by
  unfold coms at h
  obtain ⟨j, hj, rfl⟩ := List.mem_map.1 h
  exact ⟨j, List.mem_range.1 hj, rfl⟩

def arrN (k : Nat) : Arr := fun x => if 1 ≤ x ∧ x ≤ (k : Int) then some (oneStr x) else none
theorem arrN_succ (k : Nat) : upd (arrN k) ((k : Int) + 1) (oneStr ((k : Int) + 1)) = arrN (k + 1) := by
  funext x
  unfold upd arrN
  by_cases e : x = (k : Int) + 1
  · subst e
    rw [if_pos rfl, if_pos (by omega)]
  · rw [if_neg e]
    by_cases h : 1 ≤ x ∧ x ≤ (k : Int)
    · rw [if_pos h, if_pos (by omega)]
    · rw [if_neg h, if_neg (by omega)]
theorem arrN_zero : arrN 0 = fun _ => none := by
  funext x
  unfold arrN
  rw [if_neg (by omega)]

theorem alone_coms (f : Nat → Option Addr) : ∀ k, alone (coms f k) = (arrN k, true)
  | 0 => by rw [arrN_zero]; rfl
  | k + 1 => by
    rw [coms_succ, alone_snoc, alone_coms f k]
    unfold aloneStep
    show (Arr.write (arrN k) [⟨(k : Int) + 1, 0, oneStr ((k : Int) + 1)⟩], true && true) = _
    rw [← arrN_succ k]; rfl
theorem runs_coms (f : Nat → Option Addr) : ∀ k, runs (coms f k) = (arrN k, true)
  | 0 => by rw [arrN_zero]; rfl
  | k + 1 => by
    rw [coms_succ, runs_snoc, runs_coms f k]
    unfold run
    rw [if_pos (show (comE k (f k)).kind = 1 from rfl)]
    show (Arr.write (arrN k) [⟨(k : Int) + 1, 0, oneStr ((k : Int) + 1)⟩], true && true) = _
    rw [← arrN_succ k]; rfl

theorem bnd_snoc (n ep : Int) (L : List Ev) (x : Ev) : bnd n ep (L ++ [x]) = bstep n ep (bnd n ep L) x := by unfold bnd; rw [List.foldl_append]; rfl
theorem bnd_coms (f : Nat → Option Addr) : ∀ k, bnd 1 4 (coms f k) = (0, (k : Int))
  | 0 => rfl
  | k + 1 => by
    rw [coms_succ, bnd_snoc, bnd_coms f k]
    unfold bstep
    rw [if_pos ⟨rfl, rfl⟩, if_neg (by simp [comE]), if_pos (show (comE k (f k)).kind = 1 from rfl)]
    show ((0 : Int), max (k : Int) ((k : Int) + 1)) = _
    rw [show max (k : Int) ((k : Int) + 1) = ((k + 1 : Nat) : Int) by omega]

theorem has_arrN (k : Nat) (n : Int) (h : 1 ≤ n ∧ n ≤ (k : Int)) : (arrN k).has n = oneStr n := by unfold Arr.has arrN; rw [if_pos h]; rfl
theorem has_arrN_not (k : Nat) (n : Int) (h : ¬ (1 ≤ n ∧ n ≤ (k : Int))) : (arrN k).has n = zero96 := by unfold Arr.has arrN; rw [if_neg h]; rfl

/-! ### the cuts of a history with one Gone -/
theorem cuts_gone {P : List Ev} {g fin : Ev} (hg : g.kind = 3) (hf : fin.kind = 4) (h3 : ∀ e ∈ P, e.kind ≠ 3) (hk : ∀ e ∈ P, 1 ≤ e.kind ∧ e.kind ≤ 4) (hl : P.length ≤ 190) {l u : Int} (hb : bnd g.node g.epoch P = (l, u)) (hlu : l ≤ u ∧ u - l < 3000) :
    cutsErr (P ++ [g, fin]) = 0 ∧ chs (P ++ [g, fin]) (P ++ [g, fin]).length = [rng l (u - l + 1).toNat] := by
  obtain ⟨L, hL⟩ : ∃ L, P ++ [g, fin] = L := ⟨_, rfl⟩
  have hlen : L.length = P.length + 1 + 1 := by rw [← hL]; simp
  have ht : L.take P.length = P := by rw [← hL]; simp
  have hgd : L.getD P.length default = g := by rw [← hL, List.getD_eq_getElem?_getD]; simp
  have hfd : L.getD (P.length + 1) default = fin := by rw [← hL, List.getD_eq_getElem?_getD]; simp
  have hlo : lo L P.length = l := by unfold lo; rw [hgd, ht, hb]
  have hhi : hi L P.length = u := by unfold hi; rw [hgd, ht, hb]; show max l u = u; omega
  have hpre : ∀ k, k ≤ P.length → ways L k = some 1 ∧ chs L k = [] := by
    intro k
    induction k with
    | zero => intro _; exact ⟨rfl, rfl⟩
    | succ k ih =>
      intro hk2
      obtain ⟨i1, i2⟩ := ih (by omega)
      have hk3 : (L.getD k default).kind ≠ 3 := by
        have : L.getD k default = P.getD k default := by rw [← hL, List.getD_eq_getElem?_getD, List.getD_eq_getElem?_getD, List.getElem?_append_left (by omega)]
        rw [this]; exact h3 _ (getD_mem (by omega))
      constructor
      · unfold ways; rw [i1]; simp only [Option.bind_some]; rw [if_neg hk3]
      · unfold chs; rw [i2, if_neg hk3]; rfl
  obtain ⟨w0, c0⟩ := hpre P.length (Nat.le_refl _)
  have w1 : ways L (P.length + 1) = some (1 * (u - l + 1)) := by
    unfold ways; rw [w0]; simp only [Option.bind_some]; rw [hgd, if_pos hg, hlo, hhi]; unfold wstep; rw [if_neg (by omega)]
  have w2 : ways L (P.length + 1 + 1) = some (1 * (u - l + 1)) := by
    rw [ways, w1]; simp only [Option.bind_some]; rw [hfd, if_neg (by omega)]
  have c1 : chs L (P.length + 1) = [rng l (u - l + 1).toNat] := by
    unfold chs; rw [c0, hgd, if_pos hg, hlo, hhi]; rfl
  have c2 : chs L (P.length + 1 + 1) = [rng l (u - l + 1).toNat] := by
    rw [chs, c1, hfd, if_neg (by omega), List.append_nil]
  have hbad : L.any Ev.bad = false := by
    rw [List.any_eq_false]
    intro e he
    have : 1 ≤ e.kind ∧ e.kind ≤ 4 := by
      rw [← hL] at he
      rcases List.mem_append.1 he with he | he
      · exact hk e he
      · simp only [List.mem_cons, List.not_mem_nil, or_false] at he
        rcases he with rfl | rfl <;> omega
    rw [not_bad this.1 this.2]; simp
  rw [hL]
  refine ⟨?_, by rw [hlen, c2]⟩
  unfold cutsErr
  rw [if_neg (by omega), hlen, if_neg (by rw [w2]; simp), hbad]; rfl

theorem count_one (c : List Int) : count [c] = c.length := by simp [count]
theorem pick_one (l : Int) (m k : Nat) (h : k < m) : pick [rng l m] k = [l + (k : Int)] := by
  show [(rng l m).getD (k % (rng l m).length) 0] = _
  rw [rng_length, Nat.mod_eq_of_lt h]
  unfold rng
  simp [List.getD_eq_getElem?_getD, h]

/-- judged: is there a cut -/
theorem judge_gone {P : List Ev} {g fin : Ev} (hg : g.kind = 3) (hf : fin.kind = 4) (h3 : ∀ e ∈ P, e.kind ≠ 3) (hk : ∀ e ∈ P, 1 ≤ e.kind ∧ e.kind ≤ 4) (hl : P.length ≤ 190) {l u : Int} (hb : bnd g.node g.epoch P = (l, u)) (hlu : l ≤ u ∧ u - l < 3000) {r : Bool}
    (hyes : r = true → ∃ c, l ≤ c ∧ c ≤ u ∧ playOk (P ++ [g, fin]) [c] = true) (hno : r = false → ∀ c, l ≤ c → c ≤ u → playOk (P ++ [g, fin]) [c] = false) :
    cutsErr (P ++ [g, fin]) = 0 ∧ judgeOk (P ++ [g, fin]) = r := by
  obtain ⟨e0, e1⟩ := cuts_gone hg hf h3 hk hl hb hlu
  refine ⟨e0, ?_⟩
  cases r
  · refine judge_no fun k hk2 => ?_
    rw [e1, count_one, rng_length] at hk2
    rw [e1, pick_one _ _ _ hk2]
    exact hno rfl _ (by omega) (by omega)
  · obtain ⟨c, h1, h2, h4⟩ := hyes rfl
    refine judge_yes (n := (c - l).toNat) e0 (by rw [e1, count_one, rng_length]; omega) ?_
    rw [e1, pick_one _ _ _ (by omega), show l + (((c - l).toNat : Nat) : Int) = c by omega]
    exact h4

/-! ### the history of HistVanish -/
theorem vanP_mem {f : Nat → Option Addr} {n : Nat} {s : Int} {read : Bool} {ra : Option Addr} {e : Ev} (h : e ∈ vanP f n s read ra) : (∃ j, j < n ∧ e = comE j (f j)) ∨ e = synE s ∨ e = rdE n ra := by
  unfold vanP at h
  rcases List.mem_append.1 h with h | h
  · rcases List.mem_append.1 h with h | h
    · exact .inl (mem_coms h)
    · split at h
      · exact .inr (.inl (List.mem_singleton.1 h))
      · simp at h
  · split at h
    · exact .inr (.inr (List.mem_singleton.1 h))
    · simp at h
theorem vanP_kind {f : Nat → Option Addr} {n : Nat} {s : Int} {read : Bool} {ra : Option Addr} {e : Ev} (h : e ∈ vanP f n s read ra) : e.kind = 1 ∨ e.kind = 2 := by
  rcases vanP_mem h with ⟨j, _, rfl⟩ | rfl | rfl
  · exact .inl rfl
  · exact .inr rfl
  · exact .inl rfl

theorem vanP_bnd (f : Nat → Option Addr) (n : Nat) (s : Int) (read : Bool) (ra : Option Addr) (hs : 0 ≤ s) : bnd 1 4 (vanP f n s read ra) = (s, (n : Int)) := by
  have h1 : bnd 1 4 (coms f n ++ (if 0 < s then [synE s] else [])) = (s, (n : Int)) := by
    by_cases h : 0 < s
    · rw [if_pos h, bnd_snoc, bnd_coms]
      unfold bstep
      rw [if_pos ⟨rfl, rfl⟩, if_pos (show (synE s).kind = 2 from rfl)]
      show (max 0 s, (n : Int)) = _
      rw [show max 0 s = s by omega]
    · rw [if_neg h, List.append_nil, bnd_coms, show s = 0 by omega]
  unfold vanP
  cases read
  · simpa using h1
  · rw [if_pos (show true = true from rfl), bnd_snoc, h1]
    unfold bstep
    rw [if_neg (by simp [rdE])]

theorem vanP_runs (f : Nat → Option Addr) (n : Nat) (s : Int) (read : Bool) (ra : Option Addr) (hn : 1 ≤ n) : (runs (vanP f n s read ra)).2 = true := by
  have h1 : runs (coms f n ++ (if 0 < s then [synE s] else [])) = (arrN n, true) := by
    by_cases h : 0 < s
    · rw [if_pos h, runs_snoc, runs_coms]; unfold run; rw [if_neg (by simp [synE]), if_neg (by simp [synE])]
    · rw [if_neg h, List.append_nil, runs_coms]
  unfold vanP
  cases read
  · rw [if_neg (show ¬ (false = true) by simp), List.append_nil, h1]
  · rw [if_pos (show true = true from rfl), runs_snoc, h1]
    unfold run
    rw [if_pos (show (rdE n ra).kind = 1 from rfl)]
    have hr : (arrN n).right ⟨(n : Int), 0, oneStr (n : Int)⟩ = true := (right_iff _ _).2 (has_arrN n n (by omega))
    show (true && List.all [⟨(n : Int), 0, oneStr (n : Int)⟩] (arrN n).right) = true
    simp [hr]

theorem coms_filter (f : Nat → Option Addr) (c : Nat) : ∀ n, (coms f n).filter (fun x => !gonep 1 4 (c : Int) x) = coms f (min n c)
  | 0 => by simp [coms]
  | n + 1 => by
    rw [coms_succ, List.filter_append, coms_filter f c n]
    by_cases h : n < c
    · have hf : List.filter (fun x => !gonep 1 4 (c : Int) x) [comE n (f n)] = [comE n (f n)] := by
        have : gonep 1 4 (c : Int) (comE n (f n)) = false := by unfold gonep comE; simp; omega
        simp [this]
      rw [hf, show min n c = n by omega, show min (n + 1) c = n + 1 by omega, coms_succ]
    · have hf : List.filter (fun x => !gonep 1 4 (c : Int) x) [comE n (f n)] = [] := by
        have : gonep 1 4 (c : Int) (comE n (f n)) = true := by unfold gonep comE; simp; omega
        simp [this]
      rw [hf, List.append_nil, show min (n + 1) c = min n c by omega]

theorem vanP_left (f : Nat → Option Addr) (n : Nat) (s : Int) (read : Bool) (ra : Option Addr) (c : Nat) (hc : c ≤ n) :
    ((vanP f n s read ra).filter fun e => e.kind == 1).filter (fun x => !gonep 1 4 (c : Int) x) = coms f c ++ (if read then [rdE n ra] else []) := by
  have h1 : (vanP f n s read ra).filter (fun e => e.kind == 1) = coms f n ++ (if read then [rdE n ra] else []) := by
    unfold vanP
    rw [List.filter_append, List.filter_append]
    have a1 : (coms f n).filter (fun e => e.kind == 1) = coms f n := List.filter_eq_self.2 (fun e he => by obtain ⟨j, _, rfl⟩ := mem_coms he; rfl)
    have a2 : (if 0 < s then [synE s] else []).filter (fun e : Ev => e.kind == 1) = [] := by split <;> rfl
    have a3 : (if read then [rdE n ra] else []).filter (fun e : Ev => e.kind == 1) = (if read then [rdE n ra] else []) := by split <;> rfl
    rw [a1, a2, a3, List.append_nil]
  rw [h1, List.filter_append, coms_filter, show min n c = c by omega]
  congr 1
  split
  · have : gonep 1 4 (c : Int) (rdE n ra) = false := by unfold gonep rdE; simp
    simp [this]
  · rfl

theorem van_alone (f : Nat → Option Addr) (n : Nat) (read : Bool) (ra : Option Addr) (c : Nat) (hc : c ≤ n) (hn : 1 ≤ n ∧ n ≤ 20) :
    alone (coms f c ++ (if read then [rdE n ra] else [])) = (arrN c, !(read && decide (c < n))) := by
  cases read
  · rw [if_neg (show ¬ (false = true) by simp), List.append_nil, alone_coms]; rfl
  · rw [if_pos (show true = true from rfl), alone_snoc, alone_coms]
    unfold aloneStep
    show ((arrN c).write [], true && List.all [⟨(n : Int), 0, oneStr (n : Int)⟩] (arrN c).right) = _
    by_cases h : c < n
    · have hr : (arrN c).right ⟨(n : Int), 0, oneStr (n : Int)⟩ = false := right_false _ _ (by
        show (arrN c).has n ≠ oneStr n
        rw [has_arrN_not c n (by omega)]
        exact fun e => one_ne_zero (n := n) (by omega) e.symm)
      simp [hr, h, Arr.write]
    · have hr : (arrN c).right ⟨(n : Int), 0, oneStr (n : Int)⟩ = true := (right_iff _ _).2 (has_arrN c n (by omega))
      simp [hr, h, Arr.write]

theorem van_play (f : Nat → Option Addr) (n : Nat) (s : Int) (read : Bool) (ra : Option Addr) (c : Nat) (hc : c ≤ n) (hn : 1 ≤ n ∧ n ≤ 20) (S : Str) (fa : Option Addr) :
    playOk (vanP f n s read ra ++ [goneE, oF n S fa]) [(c : Int)] = ((arrN c).right ⟨n, 0, S⟩ && !(read && decide (c < n))) := by
  rw [play_gone (P := vanP f n s read ra) (g := goneE) (fin := oF n S fa) rfl rfl (fun e he => by rcases vanP_kind he with h | h <;> omega) (fun e he h1 => by
    rcases vanP_mem he with ⟨j, _, rfl⟩ | rfl | rfl
    · show (0 : Int) < (j : Int) + 1; omega
    · cases h1
    · show (0 : Int) < 1; omega)]
  rw [vanP_runs f n s read ra hn.1]
  show (true && List.all [⟨(n : Int), 0, S⟩] (alone (((vanP f n s read ra).filter fun e => e.kind == 1).filter fun x => !gonep 1 4 (c : Int) x)).1.right && (alone (((vanP f n s read ra).filter fun e => e.kind == 1).filter fun x => !gonep 1 4 (c : Int) x)).2) = _
  rw [vanP_left f n s read ra c hc, van_alone f n read ra c hc hn]
  simp

theorem vanP_length (f : Nat → Option Addr) (n : Nat) (s : Int) (read : Bool) (ra : Option Addr) : (vanP f n s read ra).length ≤ n + 2 ∧ n ≤ (vanP f n s read ra).length := by
  unfold vanP
  rw [List.length_append, List.length_append, coms_length]
  constructor
  · split <;> split <;> simp
  · omega

theorem van_zero (f : Nat → Option Addr) (n : Nat) (s : Int) (read : Bool) (ra : Option Addr) (hn : 1 ≤ n ∧ n ≤ 20) (hs : 0 ≤ s ∧ s ≤ n) (fa : Option Addr) :
    cutsErr (vanP f n s read ra ++ [goneE, oF n zero96 fa]) = 0 ∧ judgeOk (vanP f n s read ra ++ [goneE, oF n zero96 fa]) = (decide (s < n) && !read) := by
  have hlen := vanP_length f n s read ra
  have hr : ∀ c : Nat, c ≤ n → (arrN c).right ⟨(n : Int), 0, zero96⟩ = decide (c < n) := fun c hc => by
    by_cases h : c < n
    · rw [(right_iff _ _).2 (has_arrN_not c n (by omega))]; simp [h]
    · rw [right_false _ _ (by show (arrN c).has n ≠ zero96; rw [has_arrN c n (by omega)]; exact one_ne_zero (by omega))]; simp [h]
  refine judge_gone rfl rfl (fun e he => by rcases vanP_kind he with h | h <;> omega) (fun e he => by rcases vanP_kind he with h | h <;> omega) (by omega) (vanP_bnd f n s read ra hs.1) (by omega) ?_ ?_
  · intro h
    rw [Bool.and_eq_true, decide_eq_true_eq] at h
    refine ⟨s, by omega, by omega, ?_⟩
    obtain ⟨c, rfl⟩ := Int.eq_ofNat_of_zero_le hs.1
    rw [van_play f n (c : Int) read ra c (by omega) hn, hr c (by omega)]
    have hcn : c < n := by omega
    simp only [Bool.not_eq_true'] at h
    simp [hcn, h.2]
  · intro h c h1 h2
    obtain ⟨c, rfl⟩ := Int.eq_ofNat_of_zero_le (by omega : 0 ≤ c)
    rw [van_play f n s read ra c (by omega) hn, hr c (by omega)]
    by_cases hcn : c < n
    · have : decide (s < (n : Int)) = true := by simp; omega
      rw [this] at h
      simp at h
      simp [hcn, h]
    · simp [hcn]

theorem van_one (f : Nat → Option Addr) (n : Nat) (s : Int) (read : Bool) (ra : Option Addr) (hn : 1 ≤ n ∧ n ≤ 20) (hs : 0 ≤ s ∧ s ≤ n) (fa : Option Addr) :
    cutsErr (vanP f n s read ra ++ [goneE, oF n (oneStr n) fa]) = 0 ∧ judgeOk (vanP f n s read ra ++ [goneE, oF n (oneStr n) fa]) = true := by
  have hlen := vanP_length f n s read ra
  refine judge_gone rfl rfl (fun e he => by rcases vanP_kind he with h | h <;> omega) (fun e he => by rcases vanP_kind he with h | h <;> omega) (by omega) (vanP_bnd f n s read ra hs.1) (by omega) ?_ ?_
  · intro _
    refine ⟨(n : Int), by omega, by omega, ?_⟩
    rw [van_play f n s read ra n (Nat.le_refl _) hn, (right_iff _ _).2 (has_arrN n n (by omega))]
    simp
  · intro h; cases h

end Go.Proofs.Yteokjobkjmibfaa
