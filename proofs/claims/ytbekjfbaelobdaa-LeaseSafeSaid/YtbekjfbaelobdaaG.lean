/- The function MineLate returns true at every term, asked and heard, and nothing that was there turns. Condition: the numbers are of 64 bits. -/
import Derived.Test.YtbekjfbaelobdaaF
import Derived.Test.YtbekjfbaelobdaaR
namespace Go.Proofs.Ytbekjfbaelobdaa
open Go.RowKit Go.Maps

def MS.first (term : Int) : MS := { T := term, last := 0, at_ := 0, en := 0, g := false, n := 0, f := fun _ => none }

theorem newMine_in (n : Int) (w : World) (h1 : 1 ≤ n) (h2 : n ≤ 100000) :
    Calls Try.prog 9 #[.int .i64 n] w fun e w' => e = .returned (.pointer (some ⟨w.heap.size + 1, 0, none⟩)) ∧ MineAt w' (w.heap.size + 1) w.heap.size (MS.first n) ∧ Chg [] w w' := by
  have e : MS.new n = MS.first n := by unfold MS.new MS.first; congr 1; omega
  exact e ▸ newMine_any n w

theorem behind_small {a n : Int} (h : a ≤ 9223372036854775807 - n) : behind a n = a + n := by unfold behind; rw [if_neg (by omega)]

set_option maxHeartbeats 1000000 in
theorem mineLate_walk (term asked heard : Int) (w : World) (r0 : -9223372036854775808 ≤ term) (r1 : term ≤ 9223372036854775807) (r2 : -9223372036854775808 ≤ asked) (r3 : asked ≤ 9223372036854775807) :
    Calls Try.prog 4 #[.int .i64 term, .int .i64 asked, .int .i64 heard] w fun e w' => e = .returned (.bool true) ∧ Below w.heap.size w w' := by
  go_enter Try.func4, Try.ntmps4
  go_wp2_with (go_at_call 8; refine (alive_any _).mono ?_; rintro e w' ⟨rfl, hb⟩)
  any_goals (go_ret; exact ⟨rfl, hb⟩)
  have hg : ((((4 ≤ term ∧ term ≤ 1000) ∧ 0 ≤ asked) ∧ asked ≤ 100000) ∧ asked ≤ heard) ∧ heard ≤ 200000 := by assumption
  obtain ⟨⟨⟨⟨⟨g1, g2⟩, g3⟩, g4⟩, g5⟩, g6⟩ := hg
  have hok0 : (MS.first term).ok := by
    refine ⟨?_, ?_, ?_, ?_, ?_, ?_, ?_, ?_, ?_, ?_⟩ <;> simp [MS.first] <;> omega
  have hok1 := MS.ask_ok hok0 (by show 0 < 1000000; omega) asked (by omega) (by omega)
  refine (newMine_in term _ (by omega) (by omega)).mono ?_
  rintro e w1 ⟨rfl, hM1, hC1⟩
  go_wp2_with fail
  have hA : Calls Try.prog 10 #[.pointer (some ⟨w.heap.size + 1, 0, none⟩), .int .i64 asked] w1 fun e w' => e = .returned (.tuple #[.int .i64 1, .bool true]) ∧ MineAt w' (w.heap.size + 1) w.heap.size ((MS.first term).ask asked) ∧ Chg [w.heap.size + 1, w.heap.size] w1 w' :=
    ask_yes hM1 hok0 asked (by omega) (by omega) (by show 0 < 1000000; omega) rfl
  refine hA.mono ?_
  rintro e w2 ⟨rfl, hM2, hC2⟩
  clear hA
  go_wp2_with fail
  have hG : Calls Try.prog 13 #[.pointer (some ⟨w.heap.size + 1, 0, none⟩), .int .i64 asked] w2 fun e w' => e = .returned (.bool false) ∧ w2 = w' := good_any hM2 asked
  refine hG.mono ?_
  rintro e w7 ⟨rfl, rfl⟩
  clear hG
  go_wp2_with fail
  have hH : Calls Try.prog 11 #[.pointer (some ⟨w.heap.size + 1, 0, none⟩), .int .i64 1] w2 fun e w' => e = .returned (.bool true) ∧ MineAt w' (w.heap.size + 1) w.heap.size { (MS.first term).ask asked with en := asked + term, g := true } ∧ Chg [w.heap.size + 1] w2 w' := by
    have := heard_yes hM2 hok1 1 asked (by omega) (by omega) rfl (.inl rfl)
    have eb : behind asked ((MS.first term).ask asked).T = asked + term := behind_small (by show asked ≤ _ - term; omega)
    rw [eb] at this
    exact this
  refine hH.mono ?_
  clear hH
  rintro e w3 ⟨rfl, hM3, hC3⟩
  have hB3 := (((Chg.refl [] w).step hC1 (by simp)).step hC2 (by simp)).step hC3 (by simp)
  clear hM1 hM2 hC1 hC2 hC3 hok0
  go_wp2_with fail
  refine (alive_any _).mono ?_
  rintro e w4 ⟨rfl, hb4⟩
  have hM4 := hM3.chg ((Chg.refl [] _).ofBelow hb4) (by simp) (by simp)
  have hB4 := hB3.ofBelow hb4
  go_wp2_with fail
  have hE : Calls Try.prog 12 #[.pointer (some ⟨w.heap.size + 1, 0, none⟩)] w4 fun e w' => e = .returned (.int .i64 (asked + term)) ∧ w4 = w' := end_any hM4
  refine hE.mono ?_
  rintro e w7 ⟨rfl, rfl⟩
  clear hE hb4 hM3 hB3
  have hok4 : MS.ok { (MS.first term).ask asked with en := asked + term, g := true } := by
    obtain ⟨t1, t2, l1, l2, l3, a1, a2, a3, a4, a5⟩ := hok1
    exact ⟨t1, t2, l1, l2, l3, a1, a2, by simp; omega, by simp; omega, a5⟩
  have hN : Calls Try.prog 11 #[.pointer (some ⟨w.heap.size + 1, 0, none⟩), .int .i64 1] w4 fun e w' => e = .returned (.bool false) ∧ w4 = w' :=
    heard_no hM4 hok4 1 asked (by omega) (by omega) rfl rfl (by
      have eb : behind asked ((MS.first term).ask asked).T = asked + term := behind_small (by show asked ≤ _ - term; omega)
      simp only [eb]; omega)
  have hN2 : Calls Try.prog 11 #[.pointer (some ⟨w.heap.size + 1, 0, none⟩), .int .i64 2] w4 fun e w' => e = .returned (.bool false) ∧ w4 = w' :=
    heard_none hM4 2 (by omega) (by omega) rfl
  have hG : Calls Try.prog 13 #[.pointer (some ⟨w.heap.size + 1, 0, none⟩), .int .i64 heard] w4 fun e w' => e = .returned (.bool (decide (heard < asked + term))) ∧ w4 = w' := by
    have := good_any hM4 heard
    simpa using this
  have hB5 := hB4.below (B := w.heap.size) (Nat.le_refl _) (by simp)
  clear hM4 hok1 hok4
  cases hh : decide (heard < asked + term)
  all_goals
    rw [hh] at hG
    go_wp2_with fail
    refine hG.mono ?_
    rintro e w7 ⟨rfl, rfl⟩
    go_wp2_with fail
    refine hN.mono ?_
    rintro e w7 ⟨rfl, rfl⟩
    go_wp2_with fail
    refine hN2.mono ?_
    rintro e w7 ⟨rfl, rfl⟩
    go_wp2_with fail
    go_ret
    exact ⟨rfl, hB5⟩

theorem mineLate_all (a0 a1 a2 : Int) (w0 : (Lit.int .i64 a0).wf = true) (w1 : (Lit.int .i64 a1).wf = true) (_w2 : (Lit.int .i64 a2).wf = true) (w : World) :
    Calls Try.prog 4 #[.int .i64 a0, .int .i64 a1, .int .i64 a2] w fun e w' => e = .returned (.bool true) ∧ Below w.heap.size w w' :=
  mineLate_walk a0 a1 a2 w (range64 w0).1 (range64 w0).2 (range64 w1).1 (range64 w1).2

end Go.Proofs.Ytbekjfbaelobdaa
