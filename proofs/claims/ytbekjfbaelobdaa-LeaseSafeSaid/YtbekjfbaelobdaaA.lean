/- What lease.term, lease.behind, lease.left and the method Ask of a lease of its own come to, in memory. Conditions: the numbers are of 64 bits; fewer than a million stamps. -/
import Derived.Test.YtbekjfbaelobdaaK
import Derived.Maps.OwnOps
import Derived.BigQuiet
import Derived.StillTailTactics
import Derived.Deep.QuietTactic
namespace Go.Proofs.Ytbekjfbaelobdaa
open Go.RowKit Go.Maps

/-- lease.term -/
theorem term_any (n : Int) (w : World) :
    Calls Try.prog 24 #[.int .i64 n] w fun e w' => e = .returned (.int .i64 (min (max n 1) 100000)) ∧ w = w' := by
  go_enter Try.func24, Try.ntmps24
  go_wp2
  all_goals (go_ret; exact ⟨ret_int (by omega), rfl⟩)

/-- lease.behind -/
def behind (a n : Int) : Int := if a > 9223372036854775807 - n then 9223372036854775807 else a + n
theorem behind_any (a n : Int) (w : World) (ha : -9223372036854775808 ≤ a) (ha2 : a ≤ 9223372036854775807) (h0 : 0 ≤ n) (h1 : n ≤ 1000000) :
    Calls Try.prog 27 #[.int .i64 a, .int .i64 n] w fun e w' => e = .returned (.int .i64 (behind a n)) ∧ w = w' := by
  go_enter Try.func27, Try.ntmps27
  go_wp2
  all_goals (go_ret; exact ⟨ret_int (by unfold behind; split <;> omega), rfl⟩)

/-- lease.left -/
def leftOf (a n : Int) : Int := if n ≥ a then 0 else min (a - n) 9223372036854775807
theorem left_any (a n : Int) (w : World) (ha : -9223372036854775808 ≤ a) (ha2 : a ≤ 9223372036854775807) (h0 : -9223372036854775808 ≤ n) (h1 : n ≤ 9223372036854775807) :
    Calls Try.prog 26 #[.int .i64 a, .int .i64 n] w fun e w' => e = .returned (.int .i64 (leftOf a n)) ∧ w = w' := by
  go_enter Try.func26, Try.ntmps26
  go_wp2
  all_goals (go_ret; refine ⟨ret_int ?_, rfl⟩)
  all_goals simp only [IntKind.wrap_u64, wrap64, leftOf] at *
  all_goals split <;> omega

/-- A lease of one's own, as it lies in memory: block b, its map bm. -/
structure MS where
  T : Int
  last : Int
  at_ : Int
  en : Int
  g : Bool
  n : Nat
  f : Int → Option Int

def MineAt (w : World) (b bm : Nat) (s : MS) : Prop :=
  Blk w b #[.int .i64 s.T, .map (some bm), .int .i64 s.last, .int .i64 s.at_, .int .i64 s.en, .bool s.g] 48 ∧ IMap w bm s.n s.f ∧ b ≠ bm

/-- what of its numbers is always so -/
def MS.ok (s : MS) : Prop := 1 ≤ s.T ∧ s.T ≤ 100000 ∧ 0 ≤ s.last ∧ s.last ≤ s.n ∧ s.n ≤ 1000000 ∧
  -9223372036854775808 ≤ s.at_ ∧ s.at_ ≤ 9223372036854775807 ∧ -9223372036854775808 ≤ s.en ∧ s.en ≤ 9223372036854775807 ∧ ∀ k c, s.f k = some c → -9223372036854775808 ≤ c ∧ c ≤ 9223372036854775807

theorem MineAt.chg {w w' : World} {b bm : Nat} {s : MS} (h : MineAt w b bm s) {S : List Nat} (hc : Chg S w w') (h1 : b ∉ S) (h2 : bm ∉ S) : MineAt w' b bm s :=
  ⟨h.1.chg hc h1, h.2.1.chg hc h2, h.2.2⟩
theorem MineAt.drewN {w : World} {b bm : Nat} {s : MS} (h : MineAt w b bm s) (n : Nat) : MineAt (w.drewN n) b bm s := h

/-- (*Mine).none -/
theorem mnone_any {w : World} {b bm : Nat} {s : MS} (h : MineAt w b bm s) :
    Calls Try.prog 25 #[.pointer (some ⟨b, 0, none⟩)] w fun e w' => e = .returned (.bool false) ∧ w = w' := by
  have c1 := h.1.cell 1 (by rfl)
  have e1 := fun (w : World) (r : Option Nat) => run_eql_map_nil w _ _ _ r Try.underlying46
  go_enter Try.func25, Try.ntmps25
  go_wp2
  go_ret
  exact ⟨rfl, rfl⟩

theorem mnone_nil (w : World) :
    Calls Try.prog 25 #[.pointer none] w fun e w' => e = .returned (.bool true) ∧ w = w' := by
  go_enter Try.func25, Try.ntmps25
  go_wp2
  go_ret
  exact ⟨rfl, rfl⟩


def MS.no (s : MS) (now : Int) : Bool := decide (0 < s.last) && decide (leftOf now s.at_ < (s.T + 4 - 1) / 4)

theorem ask_no {w : World} {b bm : Nat} {s : MS} (h : MineAt w b bm s) (hs : s.ok) (now : Int) (h0 : -9223372036854775808 ≤ now) (h1 : now ≤ 9223372036854775807) (hno : s.no now = true) :
    Calls Try.prog 10 #[.pointer (some ⟨b, 0, none⟩), .int .i64 now] w fun e w' => e = .returned (.tuple #[.int .i64 0, .bool false]) ∧ Chg [] w w' := by
  obtain ⟨t1, t2, l1, l2, l3, a1, a2, a3, a4, a5⟩ := hs
  simp only [MS.no, Bool.and_eq_true, decide_eq_true_eq] at hno
  obtain ⟨n1, n2⟩ := hno
  have c0 := h.1.cell 0 (by rfl)
  have c2 := h.1.cell 2 (by rfl)
  have c3 := h.1.cell 3 (by rfl)
  go_enter Try.func10, Try.ntmps10
  go_wp2_with fail
  go_quiet ((first
    | (go_at_call 25; exact Calls.quiet_of_same ((mnone_any (h.drewN _)).mono fun _ _ ⟨x, y⟩ => ⟨x, y.symm⟩))
    | (go_at_call 26; exact Calls.quiet_of_same ((left_any now s.at_ _ h0 h1 a1 a2).mono fun _ _ ⟨x, y⟩ => ⟨x, y.symm⟩))))
  go_wp2_with fail
  go_ret2
  exact ⟨rfl, (Chg.refl _ _).drewN _⟩


def MS.ask (s : MS) (now : Int) : MS := { s with last := s.last + 1, at_ := now, n := s.n + 1, f := upd s.f (s.last + 1) now }

theorem ask_yes {w : World} {b bm : Nat} {s : MS} (h : MineAt w b bm s) (hs : s.ok) (now : Int) (h0 : -9223372036854775808 ≤ now) (h1 : now ≤ 9223372036854775807) (hn : s.n < 1000000) (hno : s.no now = false) :
    Calls Try.prog 10 #[.pointer (some ⟨b, 0, none⟩), .int .i64 now] w fun e w' => e = .returned (.tuple #[.int .i64 (s.last + 1), .bool true]) ∧ MineAt w' b bm (s.ask now) ∧ Chg [b, bm] w w' := by
  obtain ⟨t1, t2, l1, l2, l3, a1, a2, a3, a4, a5⟩ := hs
  have c0 := h.1.cell 0 (by rfl)
  have c1 := h.1.cell 1 (by rfl)
  have c2 := h.1.cell 2 (by rfl)
  have c3 := h.1.cell 3 (by rfl)
  have f2 := h.1.free 2
  have f3 := h.1.free 3
  have hcase : decide (0 < s.last) = false ∨ (decide (0 < s.last) = true ∧ decide (leftOf now s.at_ < (s.T + 4 - 1) / 4) = false) := by
    simp only [MS.no, Bool.and_eq_false_iff] at hno
    cases hd : decide (0 < s.last) <;> simp_all
  clear hno
  rcases hcase with hd | ⟨hd, hd2⟩
  all_goals
    go_enter Try.func10, Try.ntmps10
    go_wp2_with fail
    go_quiet ((first
      | (go_at_call 25; exact Calls.quiet_of_same ((mnone_any (h.drewN _)).mono fun _ _ ⟨x, y⟩ => ⟨x, y.symm⟩))
      | (go_at_call 26; exact Calls.quiet_of_same ((left_any now s.at_ _ h0 h1 a1 a2).mono fun _ _ ⟨x, y⟩ => ⟨x, y.symm⟩))))
    go_wp2_with fail
    refine wp_still_tail 9 (by kernel_rfl) (by kernel_rfl) ?_
    simp only [List.take_succ_cons, List.take_zero, List.drop_succ_cons, List.drop_zero]
    repeat still_step
    refine wpStill_nil ?_
    have hB2 : Blk (((w.drewN nq).setCell ⟨b, 2, none⟩ (.int .i64 (s.last + 1))).setCell ⟨b, 3, none⟩ (.int .i64 now)).drew b #[.int .i64 s.T, .map (some bm), .int .i64 (s.last + 1), .int .i64 now, .int .i64 s.en, .bool s.g] 48 :=
      ((h.1.drewN nq).set 2 _).set 3 _
    have hI2 : IMap (((w.drewN nq).setCell ⟨b, 2, none⟩ (.int .i64 (s.last + 1))).setCell ⟨b, 3, none⟩ (.int .i64 now)).drew bm s.n s.f :=
      (((h.2.1.drewN nq).setCell ⟨b, 2, none⟩ (Ne.symm h.2.2) _).setCell ⟨b, 3, none⟩ (Ne.symm h.2.2) _).drewN 1
    have hC2 : Chg [b, bm] w (((w.drewN nq).setCell ⟨b, 2, none⟩ (.int .i64 (s.last + 1))).setCell ⟨b, 3, none⟩ (.int .i64 now)).drew :=
      (((((Chg.refl _ w).drewN nq).setCell ⟨b, 2, none⟩ (by simp) _).setCell ⟨b, 3, none⟩ (by simp) _)).drew
    refine wpList_store_I _ rfl _ _ _ rfl bm s.n s.f rfl hI2 (by unfold maxLen; omega) (s.last + 1) now rfl rfl (WalkArith.wf_i64 (by omega)) (WalkArith.wf_i64 (by omega)) ?_
    intro w1 hI3 ht
    have hB3 := hB2.grown ht.grown (by simp; exact h.2.2)
    have hC3 := hC2.turned ht (by simp)
    have c2' := hB3.cell 2 (by rfl)
    clear c0 c1 c2 c3 f2 f3 hB2 hI2 hC2 ht
    go_wp2_with fail
    go_ret2
    exact ⟨rfl, ⟨hB3, hI3, h.2.2⟩, hC3⟩

end Go.Proofs.Ytbekjfbaelobdaa
