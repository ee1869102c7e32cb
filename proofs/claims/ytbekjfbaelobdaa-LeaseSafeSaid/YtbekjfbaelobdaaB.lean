/- What the methods Heard, Good, End of a lease of its own and NewMine come to, in memory. Conditions: the numbers are of 64 bits. -/
import Derived.Test.YtbekjfbaelobdaaA
import Derived.Maps.OwnOps
import Derived.BigQuiet
import Derived.Deep.QuietTactic
namespace Go.Proofs.Ytbekjfbaelobdaa
open Go.RowKit Go.Maps

/-! ### Heard -/
def MS.heardB (s : MS) (k : Int) : Bool := match s.f k with
  | none => false
  | some a => !(s.g && decide (behind a s.T ≤ s.en))
def MS.heard (s : MS) (k : Int) : MS := if s.heardB k then { s with en := behind ((s.f k).getD 0) s.T, g := true } else s

theorem heard_none {w : World} {b bm : Nat} {s : MS} (h : MineAt w b bm s) (k : Int) (h0 : -9223372036854775808 ≤ k) (h1 : k ≤ 9223372036854775807) (hf : s.f k = none) :
    Calls Try.prog 11 #[.pointer (some ⟨b, 0, none⟩), .int .i64 k] w fun e w' => e = .returned (.bool false) ∧ w = w' := by
  have c1 := h.1.cell 1 (by rfl)
  have hfs : (s.f k).isSome = false := by rw [hf]; rfl
  go_enter Try.func11, Try.ntmps11
  go_wp2_with (first
    | (go_at_call 25; refine (mnone_any h).mono ?_; rintro e w' ⟨rfl, rfl⟩)
    | (at_lookup; refine wpList_lookup_I _ rfl _ _ rfl bm s.n s.f rfl h.2.1 k rfl (WalkArith.wf_i64 (by omega)) ?_))
  go_ret
  exact ⟨rfl, rfl⟩


theorem behind_range {a n : Int} (ha : -9223372036854775808 ≤ a) (ha2 : a ≤ 9223372036854775807) (h0 : 0 ≤ n) (h1 : n ≤ 1000000) : -9223372036854775808 ≤ behind a n ∧ behind a n ≤ 9223372036854775807 := by
  unfold behind; split <;> omega

theorem heard_no {w : World} {b bm : Nat} {s : MS} (h : MineAt w b bm s) (hs : s.ok) (k a : Int) (h0 : -9223372036854775808 ≤ k) (h1 : k ≤ 9223372036854775807) (hf : s.f k = some a) (hg : s.g = true) (hle : behind a s.T ≤ s.en) :
    Calls Try.prog 11 #[.pointer (some ⟨b, 0, none⟩), .int .i64 k] w fun e w' => e = .returned (.bool false) ∧ w = w' := by
  have hr := hs.2.2.2.2.2.2.2.2.2 k a hf
  have t1 := hs.1
  have t2 := hs.2.1
  have c0 := h.1.cell 0 (by rfl)
  have c1 := h.1.cell 1 (by rfl)
  have c4 := h.1.cell 4 (by rfl)
  have c5 := h.1.cell 5 (by rfl)
  have hfs : (s.f k).isSome = true := by rw [hf]; rfl
  have hfd : (s.f k).getD 0 = a := by rw [hf]; rfl
  go_enter Try.func11, Try.ntmps11
  go_wp2_with (first
    | (go_at_call 25; refine (mnone_any h).mono ?_; rintro e w' ⟨rfl, rfl⟩)
    | (go_at_call 27; refine (behind_any a s.T _ hr.1 hr.2 (by omega) (by omega)).mono ?_; rintro e w' ⟨rfl, rfl⟩)
    | (at_lookup; refine wpList_lookup_I _ rfl _ _ rfl bm s.n s.f rfl h.2.1 k rfl (WalkArith.wf_i64 (by omega)) ?_))
  go_ret
  exact ⟨rfl, rfl⟩

theorem heard_yes {w : World} {b bm : Nat} {s : MS} (h : MineAt w b bm s) (hs : s.ok) (k a : Int) (h0 : -9223372036854775808 ≤ k) (h1 : k ≤ 9223372036854775807) (hf : s.f k = some a) (hc : s.g = false ∨ (s.g = true ∧ s.en < behind a s.T)) :
    Calls Try.prog 11 #[.pointer (some ⟨b, 0, none⟩), .int .i64 k] w fun e w' => e = .returned (.bool true) ∧ MineAt w' b bm { s with en := behind a s.T, g := true } ∧ Chg [b] w w' := by
  have hr := hs.2.2.2.2.2.2.2.2.2 k a hf
  have t1 := hs.1
  have t2 := hs.2.1
  have c0 := h.1.cell 0 (by rfl)
  have c1 := h.1.cell 1 (by rfl)
  have c4 := h.1.cell 4 (by rfl)
  have c5 := h.1.cell 5 (by rfl)
  have f4 := h.1.free 4
  have f5 := h.1.free 5
  have hfs : (s.f k).isSome = true := by rw [hf]; rfl
  have hfd : (s.f k).getD 0 = a := by rw [hf]; rfl
  have hB : Blk ((w.setCell ⟨b, 4, none⟩ (.int .i64 (behind a s.T))).setCell ⟨b, 5, none⟩ (.bool true)) b #[.int .i64 s.T, .map (some bm), .int .i64 s.last, .int .i64 s.at_, .int .i64 (behind a s.T), .bool true] 48 :=
    ((h.1).set 4 _).set 5 _
  have hI : IMap ((w.setCell ⟨b, 4, none⟩ (.int .i64 (behind a s.T))).setCell ⟨b, 5, none⟩ (.bool true)) bm s.n s.f :=
    (((h.2.1).setCell ⟨b, 4, none⟩ (Ne.symm h.2.2) _).setCell ⟨b, 5, none⟩ (Ne.symm h.2.2) _)
  have hC : Chg [b] w ((w.setCell ⟨b, 4, none⟩ (.int .i64 (behind a s.T))).setCell ⟨b, 5, none⟩ (.bool true)) :=
    (((Chg.refl _ w)).setCell ⟨b, 4, none⟩ (by simp) _).setCell ⟨b, 5, none⟩ (by simp) _
  rcases hc with hg | ⟨hg, hlt⟩
  all_goals
    go_enter Try.func11, Try.ntmps11
    go_wp2_with (first
      | (go_at_call 25; refine (mnone_any h).mono ?_; rintro e w' ⟨rfl, rfl⟩)
      | (go_at_call 27; refine (behind_any a s.T _ hr.1 hr.2 (by omega) (by omega)).mono ?_; rintro e w' ⟨rfl, rfl⟩)
      | (at_lookup; refine wpList_lookup_I _ rfl _ _ rfl bm s.n s.f rfl h.2.1 k rfl (WalkArith.wf_i64 (by omega)) ?_))
    go_ret
    exact ⟨rfl, ⟨hB, hI, h.2.2⟩, hC⟩

theorem heard_any {w : World} {b bm : Nat} {s : MS} (h : MineAt w b bm s) (hs : s.ok) (k : Int) (h0 : -9223372036854775808 ≤ k) (h1 : k ≤ 9223372036854775807) :
    Calls Try.prog 11 #[.pointer (some ⟨b, 0, none⟩), .int .i64 k] w fun e w' => e = .returned (.bool (s.heardB k)) ∧ MineAt w' b bm (s.heard k) ∧ Chg [b] w w' := by
  cases hf : s.f k with
  | none =>
    have e : s.heardB k = false := by unfold MS.heardB; rw [hf]
    unfold MS.heard; rw [e]
    exact (heard_none h k h0 h1 hf).mono fun _ _ ⟨x, y⟩ => ⟨x, by subst y; exact h, by subst y; exact Chg.refl _ _⟩
  | some a =>
    by_cases hc : s.g = true ∧ behind a s.T ≤ s.en
    · have e : s.heardB k = false := by unfold MS.heardB; rw [hf]; simp [hc.1, hc.2]
      unfold MS.heard; rw [e]
      exact (heard_no h hs k a h0 h1 hf hc.1 hc.2).mono fun _ _ ⟨x, y⟩ => ⟨x, by subst y; exact h, by subst y; exact Chg.refl _ _⟩
    · have e : s.heardB k = true := by
        unfold MS.heardB; rw [hf]; simp
        by_cases g : s.g = true
        · right; have := hc; simp [g] at this; exact this
        · left; simpa using g
      unfold MS.heard; rw [e, hf]
      exact heard_yes h hs k a h0 h1 hf (by cases hg : s.g with | false => exact .inl rfl | true => exact .inr ⟨rfl, by simp [hg] at hc; exact hc⟩)

/-! ### Good, End -/
theorem good_any {w : World} {b bm : Nat} {s : MS} (h : MineAt w b bm s) (now : Int) :
    Calls Try.prog 13 #[.pointer (some ⟨b, 0, none⟩), .int .i64 now] w fun e w' => e = .returned (.bool (s.g && decide (now < s.en))) ∧ w = w' := by
  have c4 := h.1.cell 4 (by rfl)
  have c5 := h.1.cell 5 (by rfl)
  cases hg : s.g
  all_goals
    go_enter Try.func13, Try.ntmps13
    go_wp2_with (first
      | (go_at_call 25; refine (mnone_any h).mono ?_; rintro e w' ⟨rfl, rfl⟩))
    go_ret
    exact ⟨rfl, rfl⟩

theorem end_any {w : World} {b bm : Nat} {s : MS} (h : MineAt w b bm s) :
    Calls Try.prog 12 #[.pointer (some ⟨b, 0, none⟩)] w fun e w' => e = .returned (.int .i64 (if s.g then s.en else 0)) ∧ w = w' := by
  have c4 := h.1.cell 4 (by rfl)
  have c5 := h.1.cell 5 (by rfl)
  cases hg : s.g
  all_goals
    go_enter Try.func12, Try.ntmps12
    go_wp2_with (first
      | (go_at_call 25; refine (mnone_any h).mono ?_; rintro e w' ⟨rfl, rfl⟩))
    go_ret
    exact ⟨rfl, rfl⟩

def MS.new (n : Int) : MS := { T := min (max n 1) 100000, last := 0, at_ := 0, en := 0, g := false, n := 0, f := fun _ => none }

theorem newMine_any (n : Int) (w : World) :
    Calls Try.prog 9 #[.int .i64 n] w fun e w' => e = .returned (.pointer (some ⟨w.heap.size + 1, 0, none⟩)) ∧ MineAt w' (w.heap.size + 1) w.heap.size (MS.new n) ∧ Chg [] w w' := by
  have hmm := @run_makeMap Try.prog
  go_enter Try.func9, Try.ntmps9
  go_wp2_with (first
    | (go_at_call 24; refine (term_any _ _).mono ?_; rintro e w' ⟨rfl, rfl⟩))
  go_ret
  refine ⟨by simp, ⟨?_, ?_, by omega⟩, ?_⟩
  · have hb := Blk.new (w.alloc (.map #[] 0)) #[.int .i64 (min (max n 1) 100000), .map (some w.heap.size), .int .i64 0, .int .i64 0, .int .i64 0, .bool false] 48
    rw [World.size_alloc] at hb
    exact hb
  · exact (IMap.made w).alloc _
  · exact ((Chg.refl _ w).alloc _).alloc _

end Go.Proofs.Ytbekjfbaelobdaa
