/- The walk of HistVanish. No condition. -/
import Derived.Test.YteokjobkjmibfaaVp
namespace Go.Proofs.Yteokjobkjmibfaa
open Go.RowKit Go.Maps

/-- append of all the events of a row to nil -/
theorem appendEs_run (w : World) (ty : TypeId) {a : Option Addr} {cap : Nat} {L : List Ev} (h : OwnE w a cap L) (hpos : 0 < L.length) (hl : L.length < 1000000) :
    ∃ a' cap' w', (Builtin.append_ #[24, 24] ty #[.slice none 0 0, .slice a L.length cap]).run Try.prog w = .ok (.slice a' L.length cap') w' ∧ OwnE w' a' cap' L ∧ w.grownBy w' none ∧ blkOf a' = some w.heap.size := by
  obtain ⟨i0, hi, hz0, hz1, hz2⟩ := info_parts info32
  have hrow := h.toRow
  obtain ⟨h1, ⟨rfl, rfl, rfl⟩ | ⟨g, cur, rfl, hB, h2, h3, h4, h5⟩⟩ := h
  · simp at hpos
  · obtain ⟨v', w', hr, r1, r2, r3, r4⟩ := run_append_own_at (P := Try.prog) w 0 24 ty 32 i0 _ 6 80 Try.underlying24 hi hz0 hz1 hz2 rfl (by decide) _ _ _ (World.ownsRow_nil w 0 32 6) ⟨g, 0, none⟩ L.length cap (L.flatMap Ev.six) (flat_len _ 6 (fun _ => rfl) L) (hrow.cells (g := g) rfl)
      (by
        intro u hu
        obtain ⟨e, _, he⟩ := List.mem_flatMap.1 hu
        simp only [List.mem_cons, List.not_mem_nil, or_false] at he
        rcases he with rfl | rfl | rfl | rfl | rfl | rfl <;> rfl) (by unfold maxLen; omega) (by omega) (Nat.zero_le _)
    rw [Nat.zero_add] at r1
    obtain ⟨a', cap', rfl, _⟩ := ownsRow_shape r1
    refine ⟨a', cap', w', hr, OwnE.ofRow h1 (by simpa using r1), r2, ?_⟩
    rcases r4 with r4 | r4
    · rw [ownBlock_eq] at r4
      exfalso
      have : a' = none := by cases a' with
        | none => rfl
        | some x => cases r4
      subst this
      rcases r1.2 with ⟨_, h0⟩ | ⟨g', c', cur', he, _⟩
      · omega
      · cases he
    · rw [ownBlock_eq] at r4; exact r4

section
variable {ops : Array Oper} {rest : List Oper} {o : Oper} {a : Act} {Q : Exit → Act → World → Prop}
theorem wpList_appendEn (w : World) (hgd : o.guard = none) (s x : Operand) (ho : o.op = .call { callee := .builtin .append, args := #[s, x], argTypes := #[24, 24] })
    (sa : Option Addr) (cap n : Nat) (L : List Ev) (hn : L.length = n) (hs : a.eval s = .slice sa n cap) (hown : OwnE w sa cap L) (hl : L.length < 1000000)
    (g c : Nat) (e : Ev) (he : e.ok) (hx : a.eval x = .slice (some ⟨g, 0, none⟩) 1 c) (hc : ∀ r, r < 6 → w.cell? ⟨g, r, none⟩ = (Ev.six e)[r]?)
    (h : ∀ a' cap' w', OwnE w' a' cap' (L ++ [e]) → w.grownBy w' (blkOf sa) → (blkOf a' = blkOf sa ∨ blkOf a' = some w.heap.size) → wpList Try.prog ops Q rest (a.put o.dst (.slice a' (n + 1) cap')) w') : wpList Try.prog ops Q (o :: rest) a w := by
  subst hn
  exact wpList_appendE w hgd s x ho sa cap L hs hown hl g c e he hx hc h
theorem step_appendEn {K : Act → World → Prop} {E : Prop} (w : World) (hgd : o.guard = none) (s x : Operand) (ho : o.op = .call { callee := .builtin .append, args := #[s, x], argTypes := #[24, 24] })
    (sa : Option Addr) (cap n : Nat) (L : List Ev) (hn : L.length = n) (hs : a.eval s = .slice sa n cap) (hown : OwnE w sa cap L) (hl : L.length < 1000000)
    (g c : Nat) (e : Ev) (he : e.ok) (hx : a.eval x = .slice (some ⟨g, 0, none⟩) 1 c) (hc : ∀ r, r < 6 → w.cell? ⟨g, r, none⟩ = (Ev.six e)[r]?)
    (h : ∀ a' cap' w', OwnE w' a' cap' (L ++ [e]) → w.grownBy w' (blkOf sa) → (blkOf a' = blkOf sa ∨ blkOf a' = some w.heap.size) → K (a.put o.dst (.slice a' (n + 1) cap')) w') :
    if Region.wanted o (yielded ops a.tmps) = true then Oper.wp Try.prog o a w K Q else E := by
  subst hn
  exact step_appendE w hgd s x ho sa cap L hs hown hl g c e he hx hc h
theorem wpList_appendEs (w : World) (hgd : o.guard = none) (s x : Operand) (ho : o.op = .call { callee := .builtin .append, args := #[s, x], argTypes := #[24, 24] })
    (hs : a.eval s = .slice none 0 0) (xa : Option Addr) (cap n : Nat) (L : List Ev) (hn : L.length = n) (hx : a.eval x = .slice xa n cap) (hown : OwnE w xa cap L) (hpos : 0 < L.length) (hl : L.length < 1000000)
    (h : ∀ a' cap' w', OwnE w' a' cap' L → w.grownBy w' none → blkOf a' = some w.heap.size → wpList Try.prog ops Q rest (a.put o.dst (.slice a' n cap')) w') : wpList Try.prog ops Q (o :: rest) a w := by
  subst hn
  refine wpList_plain hgd fun K hK => ?_
  obtain ⟨a', cap', w', hr, h1, h2, h3⟩ := appendEs_run w o.type hown hpos hl
  unfold Oper.wp execOp
  simp only [ho, resolve, invoke, builtin, Sem.run_bind, Sem.run_pure, Result.andThen_ok, List.map_toArray, List.map_cons, List.map_nil, hs, hx, hr]
  exact hK _ _ (h a' cap' w' h1 h2 h3)
theorem step_appendEs {K : Act → World → Prop} {E : Prop} (w : World) (hgd : o.guard = none) (s x : Operand) (ho : o.op = .call { callee := .builtin .append, args := #[s, x], argTypes := #[24, 24] })
    (hs : a.eval s = .slice none 0 0) (xa : Option Addr) (cap n : Nat) (L : List Ev) (hn : L.length = n) (hx : a.eval x = .slice xa n cap) (hown : OwnE w xa cap L) (hpos : 0 < L.length) (hl : L.length < 1000000)
    (h : ∀ a' cap' w', OwnE w' a' cap' L → w.grownBy w' none → blkOf a' = some w.heap.size → K (a.put o.dst (.slice a' n cap')) w') :
    if Region.wanted o (yielded ops a.tmps) = true then Oper.wp Try.prog o a w K Q else E := by
  subst hn
  have hw : Region.wanted o (yielded ops a.tmps) = true := by simp [Region.wanted, hgd]
  rw [if_pos hw]
  obtain ⟨a', cap', w', hr, h1, h2, h3⟩ := appendEs_run w o.type hown hpos hl
  unfold Oper.wp execOp
  simp only [ho, resolve, invoke, builtin, Sem.run_bind, Sem.run_pure, Result.andThen_ok, List.map_toArray, List.map_cons, List.map_nil, hs, hx, hr]
  exact h a' cap' w' h1 h2 h3
end

/-- a slice's row lies in a block of images -/
def Ty (w : World) (x : Option Addr) : Prop := ∀ g, blkOf x = some g → ∃ cur, Blk w g cur 29
theorem Ty.none_ (w : World) : Ty w none := fun g hg => by cases hg
theorem Ty.of {w : World} {b : Nat} {cur : Array Value} (h : Blk w b cur 29) : Ty w (some ⟨b, 0, none⟩) := fun g hg => by cases hg; exact ⟨cur, h⟩
theorem Ty.chg0 {w w' : World} {x : Option Addr} (h : Ty w x) (hc : Chg [] w w') : Ty w' x := fun g hg => by obtain ⟨cur, hB⟩ := h g hg; exact ⟨cur, hB.chg hc (by simp)⟩

theorem grown_chg {w w' : World} {a : Option Addr} (hg : w.grownBy w' (blkOf a)) : Chg (blkOf a).toList w w' := (Chg.refl _ _).grown hg (fun k hk => .inl (by simp [hk]))
theorem ty_ne {w : World} {x a : Option Addr} {cap : Nat} {L : List Ev} (h : Ty w x) (hO : OwnE w a cap L) : ∀ g, blkOf x = some g → g ∉ (blkOf a).toList := fun g hg hm => by
  obtain ⟨c1, h1⟩ := h g hg
  obtain ⟨c2, h2⟩ := hO.blk (g := g) (by simpa using hm)
  exact blk_ne h1 h2 (by decide) rfl
theorem Ty.grown {w w' : World} {x a : Option Addr} {cap : Nat} {L : List Ev} (h : Ty w x) (hO : OwnE w a cap L) (hg : w.grownBy w' (blkOf a)) : Ty w' x := fun g hx => by
  obtain ⟨cur, hB⟩ := h g hx
  exact ⟨cur, hB.chg (grown_chg hg) (ty_ne h hO g hx)⟩
theorem ImgsAt.grown {w w' : World} {x a : Option Addr} {cap : Nat} {L : List Ev} {I : List Img} (h : ImgsAt w x I) (ht : Ty w x) (hO : OwnE w a cap L) (hg : w.grownBy w' (blkOf a)) : ImgsAt w' x I := h.chg (grown_chg hg) (ty_ne ht hO)

/-- an event whose images can be read, in blocks of images -/
structure Good (w : World) (e : Ev) : Prop where
  lies : e.lies w
  tr : Ty w e.ra
  tw : Ty w e.wa
theorem Good.chg0 {w w' : World} {e : Ev} (h : Good w e) (hc : Chg [] w w') : Good w' e := ⟨h.lies.chgN hc (by simp), h.tr.chg0 hc, h.tw.chg0 hc⟩
theorem Good.grown {w w' : World} {a : Option Addr} {cap : Nat} {L : List Ev} {e : Ev} (h : Good w e) (hO : OwnE w a cap L) (hg : w.grownBy w' (blkOf a)) : Good w' e :=
  ⟨⟨h.lies.1.grown h.tr hO hg, h.lies.2.grown h.tw hO hg⟩, h.tr.grown hO hg, h.tw.grown hO hg⟩
theorem Good.plain (w : World) (k n e l : Int) : Good w ⟨k, n, e, l, [], [], none, 0, none, 0⟩ := ⟨⟨imgs_nil _ _, imgs_nil _ _⟩, Ty.none_ _, Ty.none_ _⟩

/-- a slice of events that a call owns, all of which can be read -/
structure Hold (w wr : World) (a : Option Addr) (cap : Nat) (L : List Ev) : Prop where
  own : OwnE wr a cap L
  new : ∀ g, blkOf a = some g → w.heap.size ≤ g
  good : ∀ e ∈ L, Good wr e
  chg : Chg [] w wr

theorem Hold.nil {w wr : World} (h : Chg [] w wr) : Hold w wr none 0 [] := ⟨OwnE.nil _, by simp [blkOf], by simp, h⟩
theorem Hold.chg0 {w wr wn : World} {a : Option Addr} {cap : Nat} {L : List Ev} (h : Hold w wr a cap L) (hc : Chg [] wr wn) : Hold w wn a cap L :=
  ⟨h.own.chg hc (by simp), h.new, fun e he => (h.good e he).chg0 hc, h.chg.step hc (by simp)⟩
theorem Hold.append {w wn w' : World} {a a' : Option Addr} {cap cap' : Nat} {L : List Ev} {e : Ev} (h : Hold w wn a cap L) (he : Good wn e) (ho : OwnE w' a' cap' (L ++ [e])) (hg : wn.grownBy w' (blkOf a)) (hat : blkOf a' = blkOf a ∨ blkOf a' = some wn.heap.size) : Hold w w' a' cap' (L ++ [e]) := by
  refine ⟨ho, fun g hg' => ?_, fun x hx => ?_, h.chg.grown hg (fun k hk => .inr (h.new k hk))⟩
  · rcases hat with ha | ha
    · rw [ha] at hg'; exact h.new g hg'
    · rw [ha] at hg'; cases hg'; exact h.chg.size
  · rcases List.mem_append.1 hx with hx | hx
    · exact (h.good x hx).grown h.own hg
    · rw [List.mem_singleton.1 hx]; exact he.grown h.own hg
/-- a copy of it -/
theorem Hold.copy {w wn w' : World} {a a' : Option Addr} {cap cap' : Nat} {L : List Ev} (h : Hold w wn a cap L) (ho : OwnE w' a' cap' L) (hg : wn.grownBy w' none) (hat : blkOf a' = some wn.heap.size) : Hold w w' a' cap' L ∧ Chg [] wn w' := by
  have hc : Chg [] wn w' := (Chg.refl [] wn).grown hg (fun k hk => by cases hk)
  refine ⟨⟨ho, fun g hg' => ?_, fun x hx => (h.good x hx).chg0 hc, h.chg.step hc (by simp)⟩, hc⟩
  rw [hat] at hg'; cases hg'; exact h.chg.size

theorem judge_hold {w wr : World} {a : Option Addr} {cap : Nat} {L : List Ev} (h : Hold w wr a cap L) (hl : L.length ≤ 400) {n : Nat} (hn : L.length = n) {r : Bool} (hj : cutsErr L = 0 ∧ judgeOk L = r) :
    Calls Try.prog 8 #[.slice a n cap] wr fun e w' => e = .returned (.tuple #[.bool r, .int .i64 0]) ∧ Below wr.heap.size wr w' := by
  subst hn
  have hcap : L.length ≤ cap := by
    obtain ⟨_, ⟨rfl, rfl, rfl⟩ | ⟨g, cur, rfl, hB, h2, _⟩⟩ := h.own
    · simp
    · exact h2
  refine (judge_any (h.own.row (by omega)) (fun e he => (h.good e he).lies) hl cap hcap).mono fun e w' ⟨he, hb⟩ => ⟨?_, hb⟩
  rw [he, hj.1, hj.2]

end Go.Proofs.Yteokjobkjmibfaa
