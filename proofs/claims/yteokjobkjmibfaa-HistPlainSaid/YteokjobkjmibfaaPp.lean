/- The plain law of HistPlain: commits that each read what was written last; with one read changed. Conditions: those that each law names. -/
import Derived.Test.YteokjobkjmibfaaVw
namespace Go.Proofs.Yteokjobkjmibfaa
open Go.RowKit Go.Maps

theorem and7 (x : Int) : ∃ m : Nat, m < 8 ∧ bits .and .i64 x 7 = (m : Int) := by
  refine ⟨(BitVec.ofInt 64 x &&& BitVec.ofInt 64 7).toNat, ?_, ?_⟩
  · rw [BitVec.toNat_and]
    have h : (BitVec.ofInt 64 7).toNat = 7 := by decide
    rw [h]
    have := @Nat.and_le_right (BitVec.ofInt 64 x).toNat 7
    omega
  · show IntKind.i64.wrap (((BitVec.ofInt 64 x &&& BitVec.ofInt 64 7).toNat : Nat) : Int) = _
    have h : (BitVec.ofInt 64 x &&& BitVec.ofInt 64 7).toNat ≤ 7 := by
      rw [BitVec.toNat_and]
      have h : (BitVec.ofInt 64 7).toNat = 7 := by decide
      rw [h]
      exact Nat.and_le_right
    generalize (BitVec.ofInt 64 x &&& BitVec.ofInt 64 7).toNat = m at h ⊢
    rw [IntKind.wrap_i64]
    omega

/-- a string that the changed one is not -/
def NotEE (S : Str) : Prop := S.data.toList.head? ≠ some 238
theorem notEE_ne {S T : Str} (h : NotEE S) : (⟨#[238]⟩ ++ T : ByteArray) ≠ S := by
  intro e
  apply h
  rw [← e]
  simp
theorem notEE_zero : NotEE zero96 := by
  unfold NotEE
  rw [zero96_eq, strOfNums_data]
  decide
theorem notEE_nums {x : Int} {r : List Int} {T : Str} (h0 : 0 ≤ x) (h1 : x < 200) : NotEE (strOfNums (x :: r) ++ T) := by
  unfold NotEE
  have : (strOfNums (x :: r) ++ T).data.toList = UInt8.ofNat x.toNat :: ((r.map fun n => UInt8.ofNat n.toNat) ++ T.data.toList) := by
    rw [ByteArray.data_append, Array.toList_append, strOfNums_data]; rfl
  rw [this]
  intro e
  have e2 := Option.some.inj e
  have := congrArg UInt8.toNat e2
  rw [UInt8.toNat_ofNat'] at this
  have h238 : (238 : UInt8).toNat = 238 := rfl
  rw [h238] at this
  omega

/-- what the images of the blocks are -/
structure LastOk (f : Arr) (La : List Img) : Prop where
  len : La.length = 10
  blk : ∀ b : Nat, b < 10 → (La.getD b default).block = (b : Int) ∧ (La.getD b default).ver = 0
  has : ∀ b : Nat, b < 10 → f.has (b : Int) = (La.getD b default).data
  size : ∀ b : Nat, b < 10 → (La.getD b default).data.size = 96 ∧ NotEE (La.getD b default).data

theorem LastOk.start {La : List Img} (hl : La.length = 10) (h : ∀ b, b < 10 → La.getD b default = ⟨b, 0, zero96⟩) : LastOk (fun _ => none) La :=
  ⟨hl, fun b hb => by rw [h b hb]; exact ⟨rfl, rfl⟩, fun b hb => by rw [h b hb]; rfl, fun b hb => by rw [h b hb]; exact ⟨zero96_size, notEE_zero⟩⟩

theorem getD_set {La : List Img} {i b : Nat} (hi : i < La.length) (w : Img) : (La.set i w).getD b default = if i = b then w else La.getD b default := by
  rw [List.getD_eq_getElem?_getD, List.getElem?_set]
  by_cases e : i = b
  · subst e; simp [hi]
  · simp [e, List.getD_eq_getElem?_getD]

theorem LastOk.write {f : Arr} {La : List Img} (h : LastOk f La) {m : Nat} (hm : m < 10) {w : Img} (hb : w.block = (m : Int)) (hv : w.ver = 0) (hs : w.data.size = 96) (hn : NotEE w.data) : LastOk (upd f w.block w.data) (La.set m w) := by
  have hlen := h.len
  refine ⟨by rw [List.length_set]; exact h.len, fun b hb2 => ?_, fun b hb2 => ?_, fun b hb2 => ?_⟩
  · rw [getD_set (by omega)]
    split
    · rename_i e; subst e; exact ⟨hb, hv⟩
    · exact h.blk b hb2
  · rw [getD_set (by omega)]
    by_cases e : m = b
    · subst e; rw [if_pos rfl, ← hb]; exact has_upd _ _ _
    · rw [if_neg e, ← h.has b hb2]
      unfold Arr.has upd
      rw [if_neg (by omega)]
  · rw [getD_set (by omega)]
    split
    · exact ⟨hs, hn⟩
    · exact h.size b hb2

theorem LastOk.right {f : Arr} {La : List Img} (h : LastOk f La) {b : Nat} (hb : b < 10) : f.right (La.getD b default) = true := by
  rw [right_iff, (h.blk b hb).1]
  exact h.has b hb
theorem LastOk.all {f : Arr} {La : List Img} (h : LastOk f La) : La.all f.right = true := by
  rw [List.all_eq_true]
  intro i hi
  obtain ⟨k, hk, rfl⟩ := List.getElem_of_mem hi
  have := h.right (b := k) (by have := h.len; omega)
  rwa [List.getD_eq_getElem?_getD, List.getElem?_eq_getElem hk] at this

/-- where HistPlain's lists stand -/
structure PInv (L : List Ev) (La : List Img) : Prop where
  ok : (runs L).2 = true
  last : LastOk (runs L).1 La
  kind : ∀ e ∈ L, e.kind = 1
  fine : ∀ e ∈ L, ∀ im ∈ e.rs, im.data.size = 96 ∧ NotEE im.data

theorem PInv.nil {La : List Img} (hl : La.length = 10) (h : ∀ b, b < 10 → La.getD b default = ⟨b, 0, zero96⟩) : PInv [] La := ⟨rfl, LastOk.start hl h, by simp, by simp⟩

/-- the round's state: what was read is right, what was written lies in La' -/
structure RInv (f : Arr) (rs ws : List Img) (La' : List Img) : Prop where
  reads : rs.all f.right = true
  last : LastOk (f.write ws) La'
  fine : ∀ im ∈ rs, im.data.size = 96 ∧ NotEE im.data

theorem RInv.start {f : Arr} {La : List Img} (h : LastOk f La) : RInv f [] [] La := ⟨rfl, h, by simp⟩
theorem RInv.read {f : Arr} {rs : List Img} {La : List Img} (h : RInv f rs [] La) {b : Nat} (hb : b < 10) : RInv f (rs ++ [La.getD b default]) [] La := by
  refine ⟨?_, h.last, fun im him => by
    rcases List.mem_append.1 him with him | him
    · exact h.fine im him
    · rw [List.mem_singleton.1 him]; exact h.last.size b hb⟩
  have := (show LastOk f La from h.last).right hb
  rw [List.all_append, h.reads]
  show (true && List.all [La.getD b default] f.right) = true
  simpa using this
theorem RInv.put {f : Arr} {rs ws : List Img} {La : List Img} (h : RInv f rs ws La) {m : Nat} (hm : m < 10) {w : Img} (hb : w.block = (m : Int)) (hv : w.ver = 0) (hs : w.data.size = 96) (hn : NotEE w.data) : RInv f rs (ws ++ [w]) (La.set m w) := by
  refine ⟨h.reads, ?_, h.fine⟩
  have : f.write (ws ++ [w]) = upd (f.write ws) w.block w.data := by unfold Arr.write; rw [List.foldl_append]; rfl
  rw [this]
  exact h.last.write hm hb hv hs hn
theorem PInv.step {L : List Ev} {La La' : List Img} (h : PInv L La) {e : Ev} (hk : e.kind = 1) (hr : RInv (runs L).1 e.rs e.ws La') : PInv (L ++ [e]) La' := by
  have hrun : runs (L ++ [e]) = ((runs L).1.write e.ws, (runs L).2 && e.rs.all (runs L).1.right) := by rw [runs_snoc]; unfold run; rw [if_pos hk]
  refine ⟨by rw [hrun, h.ok, hr.reads]; rfl, by rw [hrun]; exact hr.last, fun x hx => ?_, fun x hx => ?_⟩
  · rcases List.mem_append.1 hx with hx | hx
    · exact h.kind x hx
    · rw [List.mem_singleton.1 hx]; exact hk
  · rcases List.mem_append.1 hx with hx | hx
    · exact h.fine x hx
    · rw [List.mem_singleton.1 hx]; exact hr.fine

/-- all is right, with a Final behind -/
theorem PInv.judge {L : List Ev} {La : List Img} (h : PInv L La) (hl : L.length ≤ 100) {fin : Ev} (hf : fin.kind = 4) (hr : fin.rs = La) : cutsErr (L ++ [fin]) = 0 ∧ judgeOk (L ++ [fin]) = true := by
  obtain ⟨h1, h2⟩ := judge_plain (L := L ++ [fin]) (fun e he => by
    rcases List.mem_append.1 he with he | he
    · exact .inl (h.kind e he)
    · rw [List.mem_singleton.1 he]; exact .inr hf) (by rw [List.length_append]; simp; omega)
  refine ⟨h1, h2.trans ?_⟩
  rw [runs_snoc]
  unfold run
  rw [if_neg (by omega), if_pos hf]
  show ((runs L).2 && fin.rs.all (runs L).1.right) = true
  rw [h.ok, hr, h.last.all]; rfl

/-! ### one read changed -/
theorem runs_mono {L : List Ev} {x : Ev} (h : (runs L).2 = false) : (runs (L ++ [x])).2 = false := by
  rw [runs_snoc]
  unfold run
  split
  · show ((runs L).2 && _) = false; rw [h]; rfl
  · split
    · show ((runs L).2 && _) = false; rw [h]; rfl
    · exact h
theorem runs_false {P : List Ev} (h : (runs P).2 = false) : ∀ Q : List Ev, (runs (P ++ Q)).2 = false := by
  intro Q
  induction Q generalizing P with
  | nil => rw [List.append_nil]; exact h
  | cons x Q ih =>
    rw [show P ++ x :: Q = (P ++ [x]) ++ Q by rw [List.append_assoc]; rfl]
    exact ih (runs_mono h)

/-- the event's reads, changed at one place -/
theorem judge_bad {P Q : List Ev} {e e' : Ev} (hk : ∀ x ∈ P ++ e :: Q, x.kind = 1) (hl : (P ++ e :: Q).length ≤ 100) (hok : (runs (P ++ e :: Q)).2 = true) (he : e'.kind = 1) {k : Nat} (hkl : k < e.rs.length) {im : Img} (him : im.block = (e.rs.getD k default).block) (hd : im.data ≠ (e.rs.getD k default).data) (hrs : e'.rs = e.rs.set k im) :
    cutsErr (P ++ e' :: Q) = 0 ∧ judgeOk (P ++ e' :: Q) = false := by
  obtain ⟨h1, h2⟩ := judge_plain (L := P ++ e' :: Q) (fun x hx => by
    rcases List.mem_append.1 hx with hx | hx
    · exact .inl (hk x (List.mem_append_left _ hx))
    · rcases List.mem_cons.1 hx with rfl | hx
      · exact .inl he
      · exact .inl (hk x (List.mem_append_right _ (List.mem_cons_of_mem _ hx)))) (by simp only [List.length_append, List.length_cons] at hl ⊢; omega)
  refine ⟨h1, h2.trans ?_⟩
  have hsplit : ∀ x : Ev, P ++ x :: Q = (P ++ [x]) ++ Q := fun x => by rw [List.append_assoc]; rfl
  rw [hsplit]
  refine runs_false ?_ Q
  -- the event as it was is right
  have hek : e.kind = 1 := hk e (List.mem_append_right _ (by simp))
  have hpe : (runs (P ++ [e])).2 = true := by
    cases hp : (runs (P ++ [e])).2
    · have := runs_false hp Q
      rw [← hsplit, hok] at this; cases this
    · rfl
  rw [runs_snoc] at hpe ⊢
  unfold run at hpe ⊢
  rw [if_pos hek] at hpe
  rw [if_pos he]
  simp only [Bool.and_eq_true] at hpe
  show ((runs P).2 && e'.rs.all (runs P).1.right) = false
  rw [hpe.1, Bool.true_and, List.all_eq_false]
  refine ⟨im, ?_, ?_⟩
  · rw [hrs]; exact List.mem_set hkl _
  · have hrt : (runs P).1.right (e.rs.getD k default) = true := by
      have := List.all_eq_true.1 hpe.2 (e.rs.getD k default) (getD_mem hkl)
      exact this
    rw [right_iff] at hrt
    rw [right_false _ _ (by rw [him, hrt]; exact fun h => hd h.symm)]
    simp

/-- how many reads there are -/
def nreads (L : List Ev) : Nat := (L.map fun e => e.rs.length).sum
theorem nreads_snoc (L : List Ev) (e : Ev) : nreads (L ++ [e]) = nreads L + e.rs.length := by unfold nreads; rw [List.map_append, List.sum_append]; simp
theorem nreads_take {L : List Ev} {k : Nat} (hk : k < L.length) : nreads (L.take (k + 1)) = nreads (L.take k) + (L.getD k default).rs.length := by rw [take_step hk, nreads_snoc]

theorem tmod_bound (a : Int) {n : Int} (hn : 0 < n) : -n < a.tmod n ∧ a.tmod n < n := ⟨Int.lt_tmod_of_pos a hn, Int.tmod_lt_of_pos a hn⟩

theorem set_split {α : Type} [Inhabited α] (L : List α) (i : Nat) (hi : i < L.length) (x : α) : L = L.take i ++ L.getD i default :: L.drop (i + 1) ∧ L.set i x = L.take i ++ x :: L.drop (i + 1) := by
  constructor
  · rw [List.getD_eq_getElem?_getD, List.getElem?_eq_getElem hi]
    show L = L.take i ++ L[i] :: L.drop (i + 1)
    rw [← List.drop_eq_getElem_cons hi, List.take_append_drop]
  · exact List.set_eq_take_append_cons_drop.trans (if_pos hi)

/-- the list with one read changed is judged false -/
theorem PInv.bad {L : List Ev} {La : List Img} (h : PInv L La) (hl : L.length ≤ 100) {i : Nat} (hi : i < L.length) {e' : Ev} (he : e'.kind = 1) {k : Nat} (hk : k < (L.getD i default).rs.length) {im : Img} (him : im.block = ((L.getD i default).rs.getD k default).block) (hd : im.data ≠ ((L.getD i default).rs.getD k default).data)
    (hrs : e'.rs = (L.getD i default).rs.set k im) : cutsErr (L.set i e') = 0 ∧ judgeOk (L.set i e') = false := by
  obtain ⟨s1, s2⟩ := set_split L i hi e'
  rw [s2]
  refine judge_bad (e := L.getD i default) ?_ ?_ ?_ he hk him hd hrs
  · rw [← s1]; exact h.kind
  · rw [← s1]; exact hl
  · rw [← s1]; exact h.ok

end Go.Proofs.Yteokjobkjmibfaa
