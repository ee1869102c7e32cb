/- What the ring of whole numbers (New, Room, Len, Peek, Drop, Pop, Push, List) comes to in memory, for a ring of eight places. Conditions: those that each law names. -/
import Derived.Test.YtbekjfbaelobdaaR
import Derived.Maps.AppendAt
import Derived.BigQuiet
import Derived.Deep.QuietTactic
import Derived.Deep.RegionLaw
namespace Go.Proofs.Ytbekjfbaelobdaa
open Go.RowKit Go.Maps

def blkOf (a : Option Addr) : Option Nat := a.map (·.block)

/-- a slice of whole numbers that owns its row -/
def OwnI (w : World) (a : Option Addr) (cap : Nat) (L : List Int) : Prop := w.ownsRow 0 3 1 (.slice a L.length cap) L.length (L.map (Value.int .i64))

theorem ownBlock_eq (a : Option Addr) (n c : Nat) : (Value.slice a n c).ownBlock = blkOf a := by cases a <;> rfl

namespace OwnI
variable {w w' : World} {a : Option Addr} {cap : Nat} {L : List Int}
theorem nil (w : World) : OwnI w none 0 [] := World.ownsRow_nil _ _ _ _
theorem cell (h : OwnI w a cap L) {i : Nat} (hi : i < L.length) : ∃ g, a = some ⟨g, 0, none⟩ ∧ w.cell? ⟨g, i, none⟩ = some (.int .i64 (L.getD i 0)) := by
  obtain ⟨g, h1, _, h2⟩ := ownsRow_cell h hi
  exact ⟨g, h1, h2⟩
theorem lt (h : OwnI w a cap L) {g : Nat} (hg : blkOf a = some g) : g < w.heap.size := (World.ownsRow.lt h g (by rw [ownBlock_eq]; exact hg)).2
theorem chg (h : OwnI w a cap L) {S : List Nat} (hc : Chg S w w') (hn : ∀ g, blkOf a = some g → g ∉ S) : OwnI w' a cap L := by
  refine ⟨h.1, ?_⟩
  rcases h.2 with h2 | ⟨g, c, cur, he, hb, hg, r⟩
  · exact .inl h2
  · cases he
    exact .inr ⟨g, _, cur, rfl, hb, hc.blk hg (hn g rfl), r⟩
theorem capLe (h : OwnI w a cap L) : L.length ≤ cap := by
  rcases h.2 with ⟨he, h0⟩ | ⟨g, c, cur, he, hb, hg, h1, _⟩
  · omega
  · cases he; exact h1
theorem len0 (h : OwnI w none cap L) : L = [] := by
  rcases h.2 with ⟨he, h0⟩ | ⟨g, c, cur, he, _⟩
  · exact List.eq_nil_of_length_eq_zero h0
  · cases he
end OwnI

theorem appendI_run (w : World) (ty : TypeId) {a : Option Addr} {cap : Nat} {L : List Int} (h : OwnI w a cap L) (ad : Addr) (c : Nat) (M : List Int) (hc : ∀ j, j < M.length → w.cell? (ad.add j) = some (.int .i64 (M.getD j 0))) (hs : L.length + M.length < 1000000000) :
    ∃ a' cap' w', (Builtin.append_ #[22, 22] ty #[.slice a L.length cap, .slice (some ad) M.length c]).run Try.prog w = .ok (.slice a' (L.length + M.length) cap') w' ∧ OwnI w' a' cap' (L ++ M) ∧ w.grownBy w' (blkOf a) ∧ (blkOf a' = blkOf a ∨ blkOf a' = some w.heap.size) := by
  obtain ⟨i0, hi, hz0, hz1, hz2⟩ := info_parts info3
  obtain ⟨v', w', hr, h1, h2, _, h4⟩ := run_append_own_at (P := Try.prog) w 0 22 ty 3 i0 (.int .i64 0) 1 8 Try.underlying22 hi hz0 hz1 hz2 rfl (by decide) _ _ _ h ad M.length c (M.map (Value.int .i64)) (by simp) (by
    intro j u hj
    have hjl : j < M.length := by have := (List.getElem?_eq_some_iff.1 hj).1; simpa using this
    rw [hc j hjl]
    rw [List.getElem?_map, List.getElem?_eq_getElem hjl] at hj
    rw [List.getD_eq_getElem?_getD, List.getElem?_eq_getElem hjl]
    exact hj) (by intro u hu; obtain ⟨x, _, rfl⟩ := List.mem_map.1 hu; rfl) (by unfold maxLen; omega) (by omega) (Nat.zero_le _)
  obtain ⟨a', cap', rfl, _⟩ := ownsRow_shape h1
  refine ⟨a', cap', w', hr, ?_, by rw [ownBlock_eq] at h2; exact h2, by rw [ownBlock_eq, ownBlock_eq] at h4; exact h4⟩
  unfold OwnI
  rw [List.length_append, List.map_append]
  exact h1

section
variable {ops : Array Oper} {rest : List Oper} {o : Oper} {a : Act} {Q : Exit → Act → World → Prop}
theorem wpList_appendI (w : World) (hgd : o.guard = none) (s x : Operand)
    (ho : o.op = .call { callee := .builtin .append, args := #[s, x], argTypes := #[22, 22] })
    (sa : Option Addr) (cap : Nat) (L : List Int) (hs : a.eval s = .slice sa L.length cap) (hown : OwnI w sa cap L)
    (ad : Addr) (c : Nat) (M : List Int) (hx : a.eval x = .slice (some ad) M.length c) (hc : ∀ j, j < M.length → w.cell? (ad.add j) = some (.int .i64 (M.getD j 0))) (hsz : L.length + M.length < 1000000000)
    (h : ∀ a' cap' w', OwnI w' a' cap' (L ++ M) → w.grownBy w' (blkOf sa) → (blkOf a' = blkOf sa ∨ blkOf a' = some w.heap.size) → wpList Try.prog ops Q rest (a.put o.dst (.slice a' (L.length + M.length) cap')) w') : wpList Try.prog ops Q (o :: rest) a w := by
  refine wpList_plain hgd fun K hK => ?_
  obtain ⟨a', cap', w', hr, h1, h2, h3⟩ := appendI_run w o.type hown ad c M hc hsz
  unfold Oper.wp execOp
  simp only [ho, resolve, invoke, builtin, Sem.run_bind, Sem.run_pure, Result.andThen_ok, List.map_toArray, List.map_cons, List.map_nil, hs, hx, hr]
  exact hK _ _ (h a' cap' w' h1 h2 h3)

theorem step_appendI {K : Act → World → Prop} {E : Prop} (w : World) (hgd : o.guard = none) (s x : Operand)
    (ho : o.op = .call { callee := .builtin .append, args := #[s, x], argTypes := #[22, 22] })
    (sa : Option Addr) (cap : Nat) (L : List Int) (hs : a.eval s = .slice sa L.length cap) (hown : OwnI w sa cap L)
    (ad : Addr) (c : Nat) (M : List Int) (hx : a.eval x = .slice (some ad) M.length c) (hc : ∀ j, j < M.length → w.cell? (ad.add j) = some (.int .i64 (M.getD j 0))) (hsz : L.length + M.length < 1000000000)
    (h : ∀ a' cap' w', OwnI w' a' cap' (L ++ M) → w.grownBy w' (blkOf sa) → (blkOf a' = blkOf sa ∨ blkOf a' = some w.heap.size) → K (a.put o.dst (.slice a' (L.length + M.length) cap')) w') :
    if Region.wanted o (yielded ops a.tmps) = true then Oper.wp Try.prog o a w K Q else E := by
  have hw : Region.wanted o (yielded ops a.tmps) = true := by simp [Region.wanted, hgd]
  rw [if_pos hw]
  obtain ⟨a', cap', w', hr, h1, h2, h3⟩ := appendI_run w o.type hown ad c M hc hsz
  unfold Oper.wp execOp
  simp only [ho, resolve, invoke, builtin, Sem.run_bind, Sem.run_pure, Result.andThen_ok, List.map_toArray, List.map_cons, List.map_nil, hs, hx, hr]
  exact h a' cap' w' h1 h2 h3
end

/-- a ring of eight places: its struct in block rb, its row in block g -/
def RingAt (w : World) (rb : Nat) (g : Option Nat) (L : List Int) : Prop :=
  ∃ a cap, Blk w rb #[.slice a L.length cap, .int .i64 8] 66 ∧ OwnI w a cap L ∧ blkOf a = g ∧ g ≠ some rb ∧ L.length ≤ 8

def foot (rb : Nat) (g : Option Nat) : List Nat := rb :: g.toList

theorem RingAt.chg {w w' : World} {rb : Nat} {g : Option Nat} {L : List Int} (h : RingAt w rb g L) {S : List Nat} (hc : Chg S w w') (hn : ∀ k ∈ foot rb g, k ∉ S) : RingAt w' rb g L := by
  obtain ⟨a, cap, h1, h2, h3, h4, h5⟩ := h
  exact ⟨a, cap, h1.chg hc (hn rb (by simp [foot])), h2.chg hc (fun k hk => hn k (by rw [h3] at hk; subst hk; simp [foot])), h3, h4, h5⟩
theorem RingAt.drewN {w : World} {rb : Nat} {g : Option Nat} {L : List Int} (h : RingAt w rb g L) (n : Nat) : RingAt (w.drewN n) rb g L := h
theorem RingAt.lt {w : World} {rb : Nat} {g : Option Nat} {L : List Int} (h : RingAt w rb g L) : ∀ k ∈ foot rb g, k < w.heap.size := by
  obtain ⟨a, cap, h1, h2, h3, h4, h5⟩ := h
  intro k hk
  simp only [foot, List.mem_cons, Option.mem_toList] at hk
  rcases hk with rfl | hk
  · exact h1.lt
  · exact h2.lt (by rw [h3]; exact hk)

theorem room_any (n : Int) (w : World) : Calls Try.prog 43 #[.int .i64 n] w fun e w' => e = .returned (.int .i64 (min (max n 0) 100000)) ∧ w = w' := by
  go_enter Try.func43, Try.ntmps43
  go_wp2
  all_goals (go_ret; exact ⟨ret_int (by omega), rfl⟩)

theorem ringNew (w : World) : Calls Try.prog 33 #[.int .i64 8] w fun e w' => e = .returned (.pointer (some ⟨w.heap.size, 0, none⟩)) ∧ RingAt w' w.heap.size none [] ∧ Chg [] w w' := by
  have hr : Calls Try.prog 43 #[.int .i64 8] w fun e w' => e = .returned (.int .i64 8) ∧ w = w' := room_any 8 w
  go_enter Try.func33, Try.ntmps33
  go_wp2_with (go_at_call 43; refine hr.mono ?_; rintro e w' ⟨rfl, rfl⟩)
  go_ret
  exact ⟨rfl, ⟨none, 0, Blk.new w _ 66, OwnI.nil _, rfl, by simp, by simp⟩, (Chg.refl _ w).alloc _⟩

theorem ringLen {w : World} {rb : Nat} {g : Option Nat} {L : List Int} (h : RingAt w rb g L) : Calls Try.prog 38 #[.pointer (some ⟨rb, 0, none⟩)] w fun e w' => e = .returned (.int .i64 L.length) ∧ w = w' := by
  obtain ⟨a, cap, h1, h2, h3, h4, h5⟩ := h
  have c0 := h1.cell 0 (by rfl)
  go_enter Try.func38, Try.ntmps38
  go_wp2
  go_ret
  exact ⟨rfl, rfl⟩

theorem ringRoom {w : World} {rb : Nat} {g : Option Nat} {L : List Int} (h : RingAt w rb g L) : Calls Try.prog 34 #[.pointer (some ⟨rb, 0, none⟩)] w fun e w' => e = .returned (.int .i64 (8 - L.length)) ∧ Chg [] w w' := by
  obtain ⟨a, cap, h1, h2, h3, h4, h5⟩ := h
  have c0 := h1.cell 0 (by rfl)
  have c1 := h1.cell 1 (by rfl)
  go_enter Try.func34, Try.ntmps34
  go_wp2_with fail
  go_quiet (fail)
  go_wp2_with fail
  go_ret
  exact ⟨rfl, (Chg.refl _ _).drewN _⟩

theorem ringPeek {w : World} {rb : Nat} {g : Option Nat} {L : List Int} (h : RingAt w rb g L) (hl : 0 < L.length) : Calls Try.prog 44 #[.pointer (some ⟨rb, 0, none⟩), .int .i64 0] w fun e w' => e = .returned (.tuple #[.int .i64 (L.getD 0 0), .bool true]) ∧ w = w' := by
  have hL := ringLen h
  obtain ⟨a, cap, h1, h2, h3, h4, h5⟩ := h
  obtain ⟨gg, rfl, hc⟩ := h2.cell hl
  have c0 := h1.cell 0 (by rfl)
  generalize L.getD 0 0 = x at hc ⊢
  have hne : decide (L = []) = false := by simp; intro e; subst e; simp at hl
  go_enter Try.func44, Try.ntmps44
  go_wp2_with (go_at_call 38; refine hL.mono ?_; rintro e w' ⟨rfl, rfl⟩)
  go_ret2
  exact ⟨rfl, rfl⟩


/-- what a call on a ring may leave: another row -/
def RingPost (w : World) (rb : Nat) (g : Option Nat) (L' : List Int) (w' : World) : Prop :=
  ∃ g', RingAt w' rb g' L' ∧ Chg (foot rb g) w w' ∧ ∀ k, g' = some k → k ∈ foot rb g ∨ w.heap.size ≤ k

theorem ringDrop {w : World} {rb : Nat} {g : Option Nat} {L : List Int} (h : RingAt w rb g L) (hl : 2 ≤ L.length) : Calls Try.prog 45 #[.pointer (some ⟨rb, 0, none⟩), .int .i64 1] w fun e w' => e = .returned (.int .i64 1) ∧ RingPost w rb g L.tail w' := by
  have hL := ringLen h
  obtain ⟨a, cap, h1, h2, h3, h4, h5⟩ := h
  obtain ⟨gg, rfl, hc⟩ := h2.cell (i := 0) (by omega)
  have hcap := h2.capLe
  have hcells : ∀ j, j < L.tail.length → w.cell? ((⟨gg, 1, none⟩ : Addr).add j) = some (.int .i64 (L.tail.getD j 0)) := by
    intro j hj
    have hj' : j < L.length - 1 := by simpa using hj
    obtain ⟨g2, e2, h7⟩ := h2.cell (i := j + 1) (by omega)
    cases e2
    have e3 : ((⟨gg, 1, none⟩ : Addr).add j) = ⟨gg, j + 1, none⟩ := by
      unfold Addr.add; split
      · rename_i h0; subst h0; rfl
      · simp [Nat.add_comm]
    rw [e3, h7]
    congr 2
    cases L with
    | nil => simp at hl
    | cons x r => rfl
  have hmn : min (1 : Int) (L.length : Int) = 1 := by omega
  have HTL : Hid (L.length - 1 = L.tail.length) := by show L.length - 1 = L.tail.length; simp
  have c0 := h1.cell 0 (by rfl)
  have f0 := h1.free 0
  go_enter Try.func45, Try.ntmps45
  go_wp2_with (first
    | (go_at_call 38; refine hL.mono ?_; rintro e w' ⟨rfl, rfl⟩)
    | (at_builtin; refine wpList_appendI w rfl _ _ rfl none 0 [] rfl (OwnI.nil w) ⟨gg, 1, none⟩ (cap - 1) L.tail (by rw [List.length_tail]; rfl) hcells (by simp; omega) ?_; intro a' cap' w1 hown1 hgr1 hat1; have hB1 := h1.grown hgr1 (by simp [blkOf]); have c0' := hB1.cell 0 (by rfl); have f0' := hB1.free 0))
  go_ret
  have hC1 : Chg (foot rb g) w w1 := (Chg.refl _ w).grown hgr1 (fun k hk => by simp [blkOf] at hk)
  have hne : ∀ k, blkOf a' = some k → k = w.heap.size := fun k hk => by rcases hat1 with h | h <;> rw [h] at hk <;> simp [blkOf] at hk; exact hk.symm
  have hC2 := hC1.setCell ⟨rb, 0, none⟩ (by simp [foot]) (.slice a' (([] : List Int).length + L.tail.length) cap')
  have hrl := h1.lt
  refine ⟨rfl, blkOf a', ⟨a', cap', ?_, ?_, rfl, fun e => by have := hne rb e; omega, by simp; omega⟩, ?_, fun k hk => .inr (by have := hne k hk; omega)⟩
  · have := hB1.set 0 (.slice a' L.tail.length cap')
    simpa using this
  · have := hown1.chg ((Chg.refl [rb] w1).setCell ⟨rb, 0, none⟩ (by simp) (.slice a' L.tail.length cap')) (fun k hk => by have := hne k hk; simp; omega)
    simpa using this
  · simpa using hC2


theorem ringPop {w : World} {rb : Nat} {g : Option Nat} {L : List Int} (h : RingAt w rb g L) (hl : 2 ≤ L.length) : Calls Try.prog 35 #[.pointer (some ⟨rb, 0, none⟩)] w fun e w' => e = .returned (.tuple #[.int .i64 (L.getD 0 0), .bool true]) ∧ RingPost w rb g L.tail w' := by
  have hP := ringPeek h (by omega)
  have hD := ringDrop h hl
  generalize L.getD 0 0 = x at hP ⊢
  generalize L.tail = M at hD ⊢
  go_enter Try.func35, Try.ntmps35
  go_wp2_with (first
    | (go_at_call 44; refine hP.mono ?_; rintro e w' ⟨rfl, rfl⟩)
    | (go_at_call 45; refine hD.mono ?_; rintro e w' ⟨rfl, hp⟩))
  go_ret2
  exact ⟨rfl, hp⟩

theorem ringPush {w : World} {rb : Nat} {g : Option Nat} {L : List Int} (h : RingAt w rb g L) (hl : L.length < 8) (sb : Nat) (x : Int) (hx : w.cell? ⟨sb, 0, none⟩ = some (.int .i64 x)) :
    Calls Try.prog 36 #[.pointer (some ⟨rb, 0, none⟩), .slice (some ⟨sb, 0, none⟩) 1 1] w fun e w' => e = .returned (.int .i64 1) ∧ RingPost w rb g (L ++ [x]) w' := by
  have hR := ringRoom h
  obtain ⟨a, cap, h1, h2, h3, h4, h5⟩ := h
  have hmn : min (1 : Int) (8 - (L.length : Int)) = 1 := by omega
  go_enter Try.func36, Try.ntmps36
  go_wp2_with (go_at_call 34; refine hR.mono ?_; rintro e wx ⟨rfl, hCx⟩)
  have hB := h1.chg hCx (by simp)
  have hO : OwnI wx.drew a cap L := (h2.chg hCx (by simp) : OwnI wx a cap L)
  have hxl := lt_of_cell hx
  have hx2 : wx.drew.cell? ⟨sb, 0, none⟩ = some (.int .i64 x) := (World.cell?_of_block (w := w) (hCx.block sb hxl (by simp))).trans hx
  have c0 := hB.cell 0 (by rfl)
  have hcs : ∀ j, j < [x].length → wx.drew.cell? ((⟨sb, 0, none⟩ : Addr).add j) = some (.int .i64 ([x].getD j 0)) := fun j hj => by
    have hj0 : j = 0 := by simpa using hj
    subst hj0
    simpa [Addr.add] using hx2
  have hls : L.length + [x].length < 1000000000 := by simp; omega
  have hB0 : Blk wx.drew rb #[.slice a L.length cap, .int .i64 8] 66 := hB
  have hnr : some rb ≠ blkOf a := by rw [h3]; exact fun e => h4 e.symm
  go_region_law (refine step_appendI _ rfl _ _ rfl a cap L rfl hO ⟨sb, 0, none⟩ 1 [x] rfl hcs hls ?_; intro a' cap' w1 hown1 hgr1 hat1; have c0' := (hB0.grown hgr1 hnr).cell 0 (by rfl); have f0' := (hB0.grown hgr1 hnr).free 0)
  have hrl := hB0.lt
  have hB1 := hB0.grown hgr1 hnr
  have hC1 : Chg (foot rb g) w w1 := ((hCx.mono (by simp)).drewN 1 : Chg (foot rb g) w wx.drew).grown hgr1 (fun k hk => .inl (by rw [h3] at hk; subst hk; simp [foot]))
  go_wp2_with fail
  go_ret
  have hsx : w.heap.size ≤ wx.heap.size := hCx.size
  have hgl : ∀ k, g = some k → k < w.heap.size := fun k hk => h2.lt (by rw [h3]; exact hk)
  have hrw := h1.lt
  have hne : ∀ k, blkOf a' = some k → k ≠ rb ∧ (k ∈ foot rb g ∨ w.heap.size ≤ k) := by
    intro k hk
    rcases hat1 with h | h <;> rw [h] at hk
    · rw [h3] at hk; subst hk; exact ⟨fun e => h4 (by rw [e]), .inl (by simp [foot])⟩
    · have hk' : wx.heap.size = k := by simpa using hk
      exact ⟨by omega, .inr (by omega)⟩
  have hC2 := hC1.setCell ⟨rb, 0, none⟩ (by simp [foot]) (.slice a' (L.length + 1) cap')
  refine ⟨rfl, blkOf a', ⟨a', cap', ?_, ?_, rfl, fun e => (hne rb e).1 rfl, by simp; omega⟩, ?_, fun k hk => (hne k hk).2⟩
  · have := hB1.set 0 (.slice a' (L.length + 1) cap')
    simpa using this
  · exact hown1.chg ((Chg.refl [rb] w1).setCell ⟨rb, 0, none⟩ (by simp) (.slice a' (L.length + 1) cap')) (fun k hk => by have := (hne k hk).1; simp; omega)
  · exact hC2

theorem ringList {w : World} {rb : Nat} {g : Option Nat} {L : List Int} (h : RingAt w rb g L) (hl : 0 < L.length) : Calls Try.prog 37 #[.pointer (some ⟨rb, 0, none⟩)] w fun e w' => ∃ a' cap', e = .returned (.slice a' L.length cap') ∧ OwnI w' a' cap' L ∧ Below w.heap.size w w' := by
  obtain ⟨a, cap, h1, h2, h3, h4, h5⟩ := h
  obtain ⟨gg, rfl, hc⟩ := h2.cell (i := 0) (by omega)
  have hcells : ∀ j, j < L.length → w.cell? ((⟨gg, 0, none⟩ : Addr).add j) = some (.int .i64 (L.getD j 0)) := by
    intro j hj
    obtain ⟨g2, e2, h7⟩ := h2.cell (i := j) hj
    cases e2
    simpa [Addr.add_lit] using h7
  have c0 := h1.cell 0 (by rfl)
  go_enter Try.func37, Try.ntmps37
  go_wp2_with (at_builtin; refine wpList_appendI w rfl _ _ rfl none 0 [] rfl (OwnI.nil w) ⟨gg, 0, none⟩ cap L rfl hcells (by simp; omega) ?_; intro a' cap' w1 hown1 hgr1 hat1)
  go_ret
  exact ⟨a', cap', by simp, by simpa using hown1, (Below.refl _ w).grown hgr1 (Nat.le_refl _) (fun k hk => by simp [blkOf] at hk)⟩

end Go.Proofs.Ytbekjfbaelobdaa
