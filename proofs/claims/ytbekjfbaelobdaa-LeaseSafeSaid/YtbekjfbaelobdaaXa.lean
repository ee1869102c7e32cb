/- The function LeaseSafe returns true at every term, all steps of both clocks and all waits, and nothing that was there turns. Condition: the slices read as slices of whole numbers. -/
import Derived.Test.YtbekjfbaelobdaaX
namespace Go.Proofs.Ytbekjfbaelobdaa
open Go.RowKit Go.Maps

section
variable {w wr wn : World} {ca cb mb mm tb tm_ n n' : Nat} {s : LS} {term : Int} {ga : Option Addr} {cap : Nat}

theorem Mem.keptA (h : Mem w ca cb mb mm tb tm_ n s term ga cap wr) : Calls Try.prog 22 #[.pointer (some ⟨ca, 0, none⟩)] wr fun e w' => e = .returned (.bool (!s.sA.broken)) ∧ wr = w' := by
  obtain ⟨FA, FB, own, hL, hA, hB⟩ := h.lies
  exact clockKept hA
theorem Mem.keptB (h : Mem w ca cb mb mm tb tm_ n s term ga cap wr) : Calls Try.prog 22 #[.pointer (some ⟨cb, 0, none⟩)] wr fun e w' => e = .returned (.bool (!s.sB.broken)) ∧ wr = w' := by
  obtain ⟨FA, FB, own, hL, hA, hB⟩ := h.lies
  exact clockKept hB
theorem Mem.nowA (h : Mem w ca cb mb mm tb tm_ n s term ga cap wr) : Calls Try.prog 23 #[.pointer (some ⟨ca, 0, none⟩)] wr fun e w' => e = .returned (.int .i64 s.sA.now) ∧ wr = w' := by
  obtain ⟨FA, FB, own, hL, hA, hB⟩ := h.lies
  exact clockNow hA
theorem Mem.nowB (h : Mem w ca cb mb mm tb tm_ n s term ga cap wr) : Calls Try.prog 23 #[.pointer (some ⟨cb, 0, none⟩)] wr fun e w' => e = .returned (.int .i64 s.sB.now) ∧ wr = w' := by
  obtain ⟨FA, FB, own, hL, hA, hB⟩ := h.lies
  exact clockNow hB

theorem Mem.askNo (h : Mem w ca cb mb mm tb tm_ n s term ga cap wr) (hs : s.m.ok) (now : Int) (h0 : 0 ≤ now) (h1 : now ≤ 2400) (hno : s.m.no now = true) :
    Calls Try.prog 10 #[.pointer (some ⟨mb, 0, none⟩), .int .i64 now] wr fun e w' => e = .returned (.tuple #[.int .i64 0, .bool false]) ∧ Mem w ca cb mb mm tb tm_ n s term ga cap w' :=
  (ask_no h.mine hs now (by omega) (by omega) hno).mono fun e w' ⟨he, hC⟩ => ⟨he, h.mineTo (h.mine.chg hC (by simp) (by simp)) hC (by simp)⟩

theorem Mem.askYes (h : Mem w ca cb mb mm tb tm_ n s term ga cap wr) (hs : s.m.ok) (hn : s.m.n < 1000000) (now : Int) (h0 : 0 ≤ now) (h1 : now ≤ 2400) (hno : s.m.no now = false) :
    Calls Try.prog 10 #[.pointer (some ⟨mb, 0, none⟩), .int .i64 now] wr fun e w' => e = .returned (.tuple #[.int .i64 (s.m.last + 1), .bool true]) ∧ Mem w ca cb mb mm tb tm_ n { s with m := s.m.ask now } term ga cap w' :=
  (ask_yes h.mine hs now (by omega) (by omega) hn hno).mono fun e w' ⟨he, hM, hC⟩ => ⟨he, h.mineTo hM hC (by simp)⟩

theorem Mem.heard (h : Mem w ca cb mb mm tb tm_ n s term ga cap wr) (hs : s.m.ok) (k : Int) (h0 : 0 ≤ k) (h1 : k ≤ 2400) :
    Calls Try.prog 11 #[.pointer (some ⟨mb, 0, none⟩), .int .i64 k] wr fun e w' => (∃ b, e = .returned (.bool b)) ∧ Mem w ca cb mb mm tb tm_ n { s with m := s.m.heard k } term ga cap w' :=
  (heard_any h.mine hs k (by omega) (by omega)).mono fun e w' ⟨he, hM, hC⟩ => ⟨⟨_, he⟩, h.mineTo hM hC (by simp)⟩

theorem Mem.renew (h : Mem w ca cb mb mm tb tm_ n s term ga cap wr) (t1 : 32 ≤ term) (t2 : term ≤ 200) (hn : n < 1000000) (now : Int) (h0 : 0 ≤ now) (h1 : now ≤ 2400) :
    Calls Try.prog 15 #[.pointer (some ⟨tb, 0, none⟩), .int .i64 1, .int .i64 now] wr fun e w' => (∃ b, e = .returned (.bool b)) ∧ ∃ f' n', n' ≤ n + 1 ∧
      ((f' = upd s.f 1 (now + 2 * term) ∧ ∀ e, s.f 1 = some e → e < now + 2 * term) ∨ (f' = s.f ∧ ∃ e, s.f 1 = some e ∧ now + 2 * term ≤ e)) ∧ Mem w ca cb mb mm tb tm_ n' { s with f := f' } term ga cap w' := by
  have hb : behind now (2 * term) = now + 2 * term := by unfold behind; rw [if_neg (by omega)]
  by_cases hc : ∃ e, s.f 1 = some e ∧ now + 2 * term ≤ e
  · obtain ⟨e, he, hle⟩ := hc
    refine (renew_no h.table (by omega) (by omega) 1 now e (by omega) (by omega) (by omega) (by omega) he (by rw [hb]; exact hle)).mono ?_
    rintro e1 w' ⟨rfl, rfl⟩
    exact ⟨⟨_, rfl⟩, s.f, n, by omega, .inr ⟨rfl, e, he, hle⟩, h⟩
  · have hlt : ∀ e, s.f 1 = some e → e < now + 2 * term := fun e he => by
      by_cases h3 : e < now + 2 * term
      · exact h3
      · exact absurd ⟨e, he, by omega⟩ hc
    have hcase : (s.f 1).isSome = false ∨ ((s.f 1).isSome = true ∧ (s.f 1).getD 0 < behind now (2 * term)) := by
      cases hf : s.f 1 with
      | none => exact .inl rfl
      | some e => exact .inr ⟨rfl, by rw [hb]; exact hlt e hf⟩
    refine (renew_yes h.table (by omega) (by omega) hn 1 now (by omega) (by omega) (by omega) (by omega) hcase).mono ?_
    rintro e1 w' ⟨rfl, hT, hC⟩
    rw [hb] at hT
    exact ⟨⟨_, rfl⟩, _, n + 1, by omega, .inl ⟨rfl, hlt⟩, h.tableTo hT hC (by simp)⟩

theorem Mem.good (h : Mem w ca cb mb mm tb tm_ n s term ga cap wr) (now : Int) :
    Calls Try.prog 13 #[.pointer (some ⟨mb, 0, none⟩), .int .i64 now] wr fun e w' => e = .returned (.bool (s.m.g && decide (now < s.m.en))) ∧ wr = w' := good_any h.mine now

theorem Mem.late (h : Mem w ca cb mb mm tb tm_ n s term ga cap wr) (hn : n ≤ 1000000) (h1 : ∀ x, x ≠ 1 → s.f x = none) (now : Int) :
    Calls Try.prog 16 #[.pointer (some ⟨tb, 0, none⟩), .int .i64 now] wr fun e w' => ∃ a l cap', e = .returned (.slice a l cap') ∧ (l = 0 ∨ (0 < l ∧ ∃ e, s.f 1 = some e ∧ e ≤ now)) ∧ Mem w ca cb mb mm tb tm_ n s term ga cap w' :=
  (late_any now h.table hn).mono fun e w' ⟨a, l, cap, he, _, hnd, hm, _, _, _, hg, hb⟩ => by
    refine ⟨a, l.length, cap, he, ?_, h.below hb⟩
    cases l with
    | nil => exact .inl rfl
    | cons x r =>
      right
      refine ⟨by simp, ?_⟩
      obtain ⟨c, h2, h3⟩ := (hm x).1 (by simp)
      by_cases e : x = 1
      · subst e; exact ⟨c, h2, h3⟩
      · rw [h1 x e] at h2; cases h2

theorem Mem.at_ (h : Mem w ca cb mb mm tb tm_ n s term ga cap wr) {k : Nat} (hk : k < s.ats.length) : ∃ g b, ga = some ⟨g, 0, none⟩ ∧ wr.cell? ⟨g, k * 3, none⟩ = some (.int .i64 ((k : Int) + 1)) ∧
    wr.cell? ⟨g, k * 3 + 1, none⟩ = some (.int .i64 (s.ats.getD k 0)) ∧ wr.cell? ⟨g, k * 3 + 2, none⟩ = some (.int .i64 b) ∧ (∀ j, wr.frozen? ⟨g, j, none⟩ = false) ∧
    ∀ b', Mem w ca cb mb mm tb tm_ n s term ga cap (wr.setCell ⟨g, k * 3 + 2, none⟩ (.int .i64 b')) := by
  obtain ⟨xs, hW, hI⟩ := h.way
  obtain ⟨g, rfl, hc, hf, hset⟩ := hW.at_ (by omega)
  obtain ⟨h1, h2, b, h3⟩ := hI.2 k hk
  refine ⟨g, b, rfl, hc _ _ h1, hc _ _ h2, hc _ _ h3, hf, fun b' => ?_⟩
  exact h.wayTo (ats' := s.ats) (hset (k * 3 + 2) (.int .i64 b') rfl) (hI.back k b') ((Chg.refl [g] wr).setCell ⟨g, k * 3 + 2, none⟩ (by simp) _) (by simp [blkOf]) (fun k hk => .inl hk)

end

end Go.Proofs.Ytbekjfbaelobdaa
