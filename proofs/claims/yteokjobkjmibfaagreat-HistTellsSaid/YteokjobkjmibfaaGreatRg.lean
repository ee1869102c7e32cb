/- The reference's Play: what it makes of a history (plain), and what it holds. Condition: the events can be read. -/
import Derived.Test.YteokjobkjmibfaaGreatRf
namespace Go.Proofs.YteokjobkjmibfaaGreat
open Go.RowKit Go.Maps

structure RSt where
  a : List Img
  ok : Bool
  there : List Ev
  gone : List Ev

def same (x y : Ev) : Bool := (x.node == y.node) && (x.epoch == y.epoch)
def rlate (G : List Ev) (x : Ev) : Bool := G.any fun g => same g x
def rvan (T : List Ev) (x : Ev) (cut : Int) (k : Nat) : Bool := same (T.getD k default) x && decide (cut < rcounts T k)
def rstill (T : List Ev) (x : Ev) (cut : Int) : Nat → List Ev × List Img
  | 0 => ([], [])
  | k + 1 => if rvan T x cut k then rstill T x cut k else ((rstill T x cut k).1 ++ [T.getD k default], rwrite (rstill T x cut k).2 (T.getD k default).ws)
def rcut (C : List Int) (n : Nat) : Int := if n < C.length then C.getD n 0 else 0
def rstep (C : List Int) (s : RSt) (x : Ev) : RSt :=
  if x.kind = 1 then (if rlate s.gone x then s else { a := rwrite s.a x.ws, ok := s.ok && rreads s.a x.rs, there := s.there ++ [x], gone := s.gone })
  else if x.kind = 3 then { a := (rstill s.there x (rcut C s.gone.length) s.there.length).2, ok := s.ok, there := (rstill s.there x (rcut C s.gone.length) s.there.length).1, gone := s.gone ++ [x] }
  else if x.kind = 4 then { s with ok := s.ok && rreads s.a x.rs } else s
def rplays (L : List Ev) (C : List Int) (k : Nat) : RSt := (L.take k).foldl (rstep C) ⟨[], true, [], []⟩
def rend (s : RSt) (k : Nat) : Bool × List Img := (s.there.take k).foldl (fun p y => (p.1 && rreads p.2 y.rs, rwrite p.2 y.ws)) (s.ok, [])
def rplay (L : List Ev) (C : List Int) : Bool × List Img := ((rend (rplays L C L.length) (rplays L C L.length).there.length).1, (rplays L C L.length).a)

theorem rplays_step {L : List Ev} {C : List Int} {k : Nat} (h : k < L.length) : rplays L C (k + 1) = rstep C (rplays L C k) (L.getD k default) := by
  unfold rplays
  rw [take_step h, List.foldl_append]; rfl
theorem rend_step {s : RSt} {k : Nat} (h : k < s.there.length) : rend s (k + 1) = ((rend s k).1 && rreads (rend s k).2 (s.there.getD k default).rs, rwrite (rend s k).2 (s.there.getD k default).ws) := by
  unfold rend
  rw [take_step h, List.foldl_append]; rfl

/-- an event that a list may hold -/
structure Fit (w : World) (e : Ev) : Prop where
  ok : e.ok
  lies : e.lies w
  few : e.ws.length ≤ 100

/-- what Play holds -/
structure RMem (w wr : World) (s : RSt) (i : Nat) (ra : Option Addr) (rc : Nat) (ta : Option Addr) (tc : Nat) (ga : Option Addr) (gc : Nat) : Prop where
  arr : OwnM wr ra rc s.a
  th : OwnR wr ta tc s.there
  gn : OwnR wr ga gc s.gone
  ne : ∀ g, blkOf ta = some g → blkOf ga ≠ some g
  nt : ∀ g, blkOf ta = some g → w.heap.size ≤ g
  ng : ∀ g, blkOf ga = some g → w.heap.size ≤ g
  fit : ∀ e ∈ s.there, Fit w e
  few : s.there.length ≤ i ∧ s.gone.length ≤ i ∧ s.a.length ≤ 100 * s.there.length
  chg : Chg [] w wr

theorem OwnR.blk {w : World} {a : Option Addr} {cap : Nat} {L : List Ev} (h : OwnR w a cap L) {g : Nat} (hg : blkOf a = some g) : ∃ cur, Blk w g cur 71 := by
  obtain ⟨h1, ⟨rfl, _⟩ | ⟨g', cur, rfl, hB, r⟩⟩ := h
  · cases hg
  · cases hg; exact ⟨cur, hB⟩
theorem OwnM.blk {w : World} {a : Option Addr} {cap : Nat} {L : List Img} (h : OwnM w a cap L) {g : Nat} (hg : blkOf a = some g) : ∃ cur, Blk w g cur 69 := (ownsRow_blk h.2 hg).2

section
variable {w wr wn : World} {s : RSt} {i : Nat} {ra ta ga a' : Option Addr} {rc tc gc cap' : Nat}
theorem RMem.start (w : World) : RMem w w ⟨[], true, [], []⟩ 0 none 0 none 0 none 0 :=
  ⟨OwnM.nil _, OwnR.nil _, OwnR.nil _, by simp [blkOf], by simp [blkOf], by simp [blkOf], by simp, by simp, Chg.refl _ _⟩
theorem RMem.chg0 (h : RMem w wr s i ra rc ta tc ga gc) (hc : Chg [] wr wn) : RMem w wn s i ra rc ta tc ga gc :=
  ⟨h.arr.chg hc (by simp), h.th.chg hc (by simp), h.gn.chg hc (by simp), h.ne, h.nt, h.ng, h.fit, h.few, h.chg.trans hc⟩
theorem RMem.mono (h : RMem w wr s i ra rc ta tc ga gc) {j : Nat} (hj : i ≤ j) : RMem w wr s j ra rc ta tc ga gc :=
  ⟨h.arr, h.th, h.gn, h.ne, h.nt, h.ng, h.fit, ⟨by have := h.few; omega, by have := h.few; omega, h.few.2.2⟩, h.chg⟩
theorem RMem.okTo (h : RMem w wr s i ra rc ta tc ga gc) (b : Bool) : RMem w wr { s with ok := b } i ra rc ta tc ga gc :=
  ⟨h.arr, h.th, h.gn, h.ne, h.nt, h.ng, h.fit, h.few, h.chg⟩
/-- a commit more -/
theorem RMem.commit (h : RMem w wr s i ra rc ta tc ga gc) {x : Ev} (hx : Fit w x) {ra' : Option Addr} {rc' : Nat} (ho : OwnM wn ra' rc' (rwrite s.a x.ws)) (hc : Chg [] wr wn)
    {wm : World} (hr : OwnR wm a' cap' (s.there ++ [x])) (hg : wn.grownBy wm (blkOf ta)) (hat : blkOf a' = blkOf ta ∨ blkOf a' = some wn.heap.size) (b : Bool) :
    RMem w wm { a := rwrite s.a x.ws, ok := b, there := s.there ++ [x], gone := s.gone } (i + 1) ra' rc' a' cap' ga gc := by
  have h2 := h.chg0 hc
  have hcg : Chg (blkOf ta).toList wn wm := (Chg.refl _ _).grown hg (fun k hk => .inl (by simp [hk]))
  refine ⟨ho.chg hcg ?_, hr, h2.gn.chg hcg ?_, ?_, ?_, h.ng, ?_, ?_, h2.chg.grown hg (fun k hk => .inr (h.nt k hk))⟩
  · intro g hg' hm
    obtain ⟨c1, hb1⟩ := ho.blk hg'
    obtain ⟨c2, hb2⟩ := h2.th.blk (g := g) (by simpa using hm)
    exact blk_ne hb1 hb2 (by decide) rfl
  · intro g hg' hm
    exact h.ne g (by simpa using hm) hg'
  · intro g hg'
    rcases hat with e | e
    · rw [e] at hg'; exact h.ne g hg'
    · rw [e] at hg'; cases hg'
      intro e2
      have := h2.gn.lt e2
      omega
  · intro g hg'
    rcases hat with e | e
    · rw [e] at hg'; exact h.nt g hg'
    · rw [e] at hg'; cases hg'; exact h2.chg.size
  · intro e he
    rcases List.mem_append.1 he with he | he
    · exact h.fit e he
    · rw [List.mem_singleton.1 he]; exact hx
  · have h1 := h.few
    have h3 := rwrite_le s.a x.ws
    have h4 := hx.few
    simp only [List.length_append, List.length_cons, List.length_nil]
    omega
end

theorem six_at {w : World} {b : Nat} {e : Ev} {cs : Array Value} {t : TypeId} (hB : Blk w b cs t) (hcs : cs = (Ev.six e).toArray) : ∀ r, r < 6 → w.cell? ⟨b, r, none⟩ = (Ev.six e)[r]? := fun r hr => by
  subst hcs
  match r, hr with
  | 0, _ => exact hB.cell 0 rfl
  | 1, _ => exact hB.cell 1 rfl
  | 2, _ => exact hB.cell 2 rfl
  | 3, _ => exact hB.cell 3 rfl
  | 4, _ => exact hB.cell 4 rfl
  | 5, _ => exact hB.cell 5 rfl

/-- what Play holds while a Gone takes commits away -/
structure SMem (w wr : World) (T G S : List Ev) (ta : Option Addr) (tc : Nat) (ga : Option Addr) (gc : Nat) (sa : Option Addr) (sc : Nat) : Prop where
  th : OwnR wr ta tc T
  gn : OwnR wr ga gc G
  st : OwnR wr sa sc S
  nt : ∀ g, blkOf sa = some g → blkOf ta ≠ some g ∧ blkOf ga ≠ some g ∧ w.heap.size ≤ g
  ng : ∀ g, blkOf ga = some g → w.heap.size ≤ g
  chg : Chg [] w wr
theorem RMem.gone {w wr wm : World} {s : RSt} {i : Nat} {ra ta ga a' : Option Addr} {rc tc gc cap' : Nat} (h : RMem w wr s i ra rc ta tc ga gc) {x : Ev} (hr : OwnR wm a' cap' (s.gone ++ [x])) (hg : wr.grownBy wm (blkOf ga))
    (hat : blkOf a' = blkOf ga ∨ blkOf a' = some wr.heap.size) : SMem w wm s.there (s.gone ++ [x]) [] ta tc a' cap' none 0 := by
  have hcg : Chg (blkOf ga).toList wr wm := (Chg.refl _ _).grown hg (fun k hk => .inl (by simp [hk]))
  refine ⟨h.th.chg hcg ?_, hr, OwnR.nil _, by simp [blkOf], ?_, h.chg.grown hg (fun k hk => .inr (h.ng k hk))⟩
  · intro g hg' hm
    exact h.ne g hg' (by simpa using hm)
  · intro g hg'
    rcases hat with e | e
    · rw [e] at hg'; exact h.ng g hg'
    · rw [e] at hg'; cases hg'; exact h.chg.size
section
variable {w wr wn wm : World} {T G S : List Ev} {ta ga sa a' : Option Addr} {tc gc sc cap' : Nat}
theorem SMem.chg0 (h : SMem w wr T G S ta tc ga gc sa sc) (hc : Chg [] wr wn) : SMem w wn T G S ta tc ga gc sa sc :=
  ⟨h.th.chg hc (by simp), h.gn.chg hc (by simp), h.st.chg hc (by simp), h.nt, h.ng, h.chg.trans hc⟩
theorem SMem.more (h : SMem w wr T G S ta tc ga gc sa sc) {x : Ev} (hr : OwnR wm a' cap' (S ++ [x])) (hg : wr.grownBy wm (blkOf sa)) (hat : blkOf a' = blkOf sa ∨ blkOf a' = some wr.heap.size) :
    SMem w wm T G (S ++ [x]) ta tc ga gc a' cap' := by
  have hcg : Chg (blkOf sa).toList wr wm := (Chg.refl _ _).grown hg (fun k hk => .inl (by simp [hk]))
  refine ⟨h.th.chg hcg ?_, h.gn.chg hcg ?_, hr, ?_, h.ng, h.chg.grown hg (fun k hk => .inr (h.nt k hk).2.2)⟩
  · intro g hg' hm
    exact (h.nt g (by simpa using hm)).1 hg'
  · intro g hg' hm
    exact (h.nt g (by simpa using hm)).2.1 hg'
  · intro g hg'
    rcases hat with e | e
    · rw [e] at hg'; exact h.nt g hg'
    · rw [e] at hg'; cases hg'
      exact ⟨fun e2 => by have := h.th.lt e2; omega, fun e2 => by have := h.gn.lt e2; omega, h.chg.size⟩
end

theorem rstill_mem {T : List Ev} {x : Ev} {cut : Int} : ∀ k, k ≤ T.length → ∀ e ∈ (rstill T x cut k).1, e ∈ T
  | 0, _, e, he => by simp [rstill] at he
  | k + 1, hk, e, he => by
    unfold rstill at he
    split at he
    · exact rstill_mem k (by omega) e he
    · rcases List.mem_append.1 he with he | he
      · exact rstill_mem k (by omega) e he
      · rw [List.mem_singleton.1 he]; exact getD_mem (by omega)

end Go.Proofs.YteokjobkjmibfaaGreat
