/- The function alive of the package commonslaw19 returns true, and nothing that was there turns. No condition. -/
import Derived.Test.YtbekjfbaelobdaaE
namespace Go.Proofs.Ytbekjfbaelobdaa
open Go.RowKit Go.Maps

theorem MS.new_ok (n : Int) : (MS.new n).ok := by
  refine ⟨?_, ?_, ?_, ?_, ?_, ?_, ?_, ?_, ?_, ?_⟩ <;> simp [MS.new] <;> omega

theorem MS.ask_ok {s : MS} (h : s.ok) (hn : s.n < 1000000) (now : Int) (h0 : -9223372036854775808 ≤ now) (h1 : now ≤ 9223372036854775807) : (s.ask now).ok := by
  obtain ⟨t1, t2, l1, l2, l3, a1, a2, a3, a4, a5⟩ := h
  refine ⟨t1, t2, ?_, ?_, ?_, h0, h1, a3, a4, fun k c hk => ?_⟩
  · simp [MS.ask]; omega
  · simp [MS.ask]; omega
  · simp [MS.ask]; omega
  · simp only [MS.ask, upd] at hk
    split at hk
    · cases hk; exact ⟨h0, h1⟩
    · exact a5 k c hk

theorem MS.heard_ok {s : MS} (h : s.ok) (k : Int) : (s.heard k).ok := by
  unfold MS.heard
  split
  · rename_i hb
    obtain ⟨t1, t2, l1, l2, l3, a1, a2, a3, a4, a5⟩ := h
    unfold MS.heardB at hb
    cases hf : s.f k with
    | none => rw [hf] at hb; cases hb
    | some a =>
      have ha := a5 k a hf
      have hr := behind_range ha.1 ha.2 (by omega : 0 ≤ s.T) (by omega : s.T ≤ 1000000)
      exact ⟨t1, t2, l1, l2, l3, a1, a2, by simpa using hr.1, by simpa using hr.2, a5⟩
  · exact h

theorem single_list {l : List Int} {c : Int} (hn : l.Nodup) (h : ∀ x, x ∈ l ↔ x = c) : l = [c] := by
  cases l with
  | nil => have := (h c).2 rfl; cases this
  | cons a r =>
    have ha : a = c := (h a).1 (by simp)
    subst ha
    cases r with
    | nil => rfl
    | cons b r' =>
      have hb : b = a := (h b).1 (by simp)
      subst hb
      simp at hn

theorem empty_list {l : List Int} (h : ∀ x, x ∉ l) : l = [] := by
  cases l with
  | nil => rfl
  | cons a r => exact absurd (List.mem_cons_self) (h a)

/-- a table that has one node at most -/
theorem late_hit {w : World} {b bm n : Nat} {T : Int} {f : Int → Option Int} (now k c : Int) (h : TableAt w b bm T n f) (hn : n ≤ 1000000) (hf : ∀ x, f x = if x = k then some c else none) (hc : c ≤ now) :
    Calls Try.prog 16 #[.pointer (some ⟨b, 0, none⟩), .int .i64 now] w fun e w' => ∃ g cap, e = .returned (.slice (some ⟨g, 0, none⟩) 1 cap) ∧ w'.cell? ⟨g, 0, none⟩ = some (.int .i64 k) ∧ Below w.heap.size w w' :=
  (late_any now h hn).mono fun e w' ⟨a, l, cap, he, _, hnd, hm, _, _, _, hg, hb⟩ => by
    have hl : l = [k] := single_list hnd (fun x => by
      rw [hm, hf]
      by_cases e : x = k <;> simp [e, hc])
    subst hl
    obtain ⟨g, rfl, hcell⟩ := hg (by simp)
    exact ⟨g, cap, he, hcell 0 (by simp), hb⟩

theorem late_miss {w : World} {b bm n : Nat} {T : Int} {f : Int → Option Int} (now : Int) (h : TableAt w b bm T n f) (hn : n ≤ 1000000) (hf : ∀ x c, f x = some c → now < c) :
    Calls Try.prog 16 #[.pointer (some ⟨b, 0, none⟩), .int .i64 now] w fun e w' => ∃ a cap, e = .returned (.slice a 0 cap) ∧ Below w.heap.size w w' :=
  (late_any now h hn).mono fun e w' ⟨a, l, cap, he, _, hnd, hm, _, _, _, hg, hb⟩ => by
    have hl : l = [] := empty_list (fun x hx => by
      obtain ⟨c, h1, h2⟩ := (hm x).1 hx
      have := hf x c h1
      omega)
    subst hl
    exact ⟨a, cap, he, hb⟩

set_option maxHeartbeats 1000000 in
theorem alive_any (w : World) : Calls Try.prog 8 #[] w fun e w' => e = .returned (.bool true) ∧ Below w.heap.size w w' := by
  go_enter Try.func8, Try.ntmps8
  go_wp2_with fail
  refine (newMine_any 32 _).mono ?_
  rintro e w1 ⟨rfl, hM1, hC1⟩
  have hok1 := MS.new_ok 32
  go_wp2_with fail
  have hA : Calls Try.prog 10 #[.pointer (some ⟨w.heap.size + 1, 0, none⟩), .int .i64 5] w1 fun e w' => e = .returned (.tuple #[.int .i64 1, .bool true]) ∧ MineAt w' (w.heap.size + 1) w.heap.size ((MS.new 32).ask 5) ∧ Chg [w.heap.size + 1, w.heap.size] w1 w' :=
    ask_yes hM1 hok1 5 (by omega) (by omega) (by decide) (by decide)
  refine hA.mono ?_
  clear hA
  rintro e w2 ⟨rfl, hM2, hC2⟩
  have hok2 := MS.ask_ok hok1 (by decide) 5 (by omega) (by omega)
  go_wp2_with fail
  have hH : Calls Try.prog 11 #[.pointer (some ⟨w.heap.size + 1, 0, none⟩), .int .i64 1] w2 fun e w' => e = .returned (.bool true) ∧ MineAt w' (w.heap.size + 1) w.heap.size { (MS.new 32).ask 5 with en := behind 5 32, g := true } ∧ Chg [w.heap.size + 1] w2 w' :=
    heard_yes hM2 hok2 1 5 (by omega) (by omega) (by decide) (.inl rfl)
  refine hH.mono ?_
  clear hH
  rintro e w3 ⟨rfl, hM3, hC3⟩
  have hB3 := (((Chg.refl [] w).step hC1 (by simp)).step hC2 (by simp)).step hC3 (by simp)
  clear hM1 hM2 hC1 hC2 hC3 hok1 hok2
  go_wp2_with fail
  refine (newTable_any 10 _).mono ?_
  rintro e w4 ⟨rfl, hT4, hC4⟩
  have hM4 := hM3.chg hC4 (by simp) (by simp)
  go_wp2_with fail
  have hR : Calls Try.prog 15 #[.pointer (some ⟨w3.heap.size + 1, 0, none⟩), .int .i64 3, .int .i64 5] w4 fun e w' => e = .returned (.bool true) ∧ TableAt w' (w3.heap.size + 1) w3.heap.size 10 1 (upd (fun _ => none) 3 15) ∧ Chg [w3.heap.size] w4 w' :=
    renew_yes hT4 (by decide) (by decide) (by decide) 3 5 (by omega) (by omega) (by omega) (by omega) (.inl rfl)
  refine hR.mono ?_
  rintro e w5 ⟨rfl, hT5, hC5⟩
  have hs3 := hB3.size
  have hM5 := hM4.chg hC5 (by have := hM3.1.lt; simp; omega) (by have := hM3.1.lt; simp; omega)
  have hB5 := (hB3.step hC4 (by simp)).step hC5 (by simp; omega)
  clear hR hM4 hM3 hT4 hC4 hC5 hB3
  go_wp2_with fail
  refine (late_hit 15 3 15 hT5 (by omega) (fun x => rfl) (by omega)).mono ?_
  rintro e w6 ⟨g, cap, rfl, hcell, hb6⟩
  have hM6 := hM5.chg ((Chg.refl [] _).ofBelow hb6) (by simp) (by simp)
  have hT6 := hT5.chg ((Chg.refl [] _).ofBelow hb6) (by simp) (by simp)
  have hB6 := hB5.ofBelow hb6
  clear hM5 hT5 hb6 hB5
  go_wp2_with fail
  have hG1 : Calls Try.prog 13 #[.pointer (some ⟨w.heap.size + 1, 0, none⟩), .int .i64 36] w6 fun e w' => e = .returned (.bool true) ∧ w6 = w' := good_any hM6 36
  refine hG1.mono ?_
  rintro e w7 ⟨rfl, rfl⟩
  go_wp2_with fail
  have hG2 : Calls Try.prog 13 #[.pointer (some ⟨w.heap.size + 1, 0, none⟩), .int .i64 37] w6 fun e w' => e = .returned (.bool false) ∧ w6 = w' := good_any hM6 37
  refine hG2.mono ?_
  rintro e w7 ⟨rfl, rfl⟩
  go_wp2_with fail
  have hL : Calls Try.prog 17 #[.pointer (some ⟨w3.heap.size + 1, 0, none⟩), .int .i64 3, .int .i64 5] w6 fun e w' => e = .returned (.int .i64 10) ∧ w6 = w' := leftM_some hT6 3 5 15 (by omega) (by omega) rfl (by omega) (by omega) (by omega) (by omega)
  refine hL.mono ?_
  rintro e w7 ⟨rfl, rfl⟩
  go_wp2_with fail
  go_ret
  exact ⟨rfl, hB6.below (Nat.le_refl _) (by simp)⟩

end Go.Proofs.Ytbekjfbaelobdaa
