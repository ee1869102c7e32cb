/- The function LeaseRenews returns true at every term, all times and every now, and nothing that was there turns. Condition: the slice reads as a slice of whole numbers. -/
import Derived.Test.YtbekjfbaelobdaaF
import Derived.Test.YtbekjfbaelobdaaR
import Derived.Test.YtbekjfbaelobdaaG
import Derived.Deep.DeepCutAuto
import Derived.Deep.LoopGhost
namespace Go.Proofs.Ytbekjfbaelobdaa
open Go.RowKit Go.Maps

/-- what is in the table when node 7 was renewed k times, its time the greatest, en -/
def Tab7 (k : Nat) (en : Int) (f : Int → Option Int) : Prop :=
  (k = 0 ∧ en = -1 ∧ ∀ x, f x = none) ∨ (0 < k ∧ 1 ≤ en ∧ en ≤ 1001000 ∧ ∀ x, f x = if x = 7 then some en else none)

def LRRel (w : World) (term : Int) (len1 : Nat) (g : Nat) (s8 s9 : Value) (wr : World) : Prop :=
  ∃ (k n : Nat) (en : Int) (f : Int → Option Int), k ≤ len1 ∧ g = len1 - k ∧ n ≤ k ∧ s9 = .int .i64 k ∧ s8 = .int .i64 en ∧ Tab7 k en f ∧ TableAt wr (w.heap.size + 1) w.heap.size term n f ∧ Chg [] w wr

theorem newTable_in (n : Int) (w : World) (h1 : 1 ≤ n) (h2 : n ≤ 100000) :
    Calls Try.prog 14 #[.int .i64 n] w fun e w' => e = .returned (.pointer (some ⟨w.heap.size + 1, 0, none⟩)) ∧ TableAt w' (w.heap.size + 1) w.heap.size n 0 (fun _ => none) ∧ Chg [] w w' := by
  have e : min (max n 1) 100000 = n := by omega
  have := newTable_any n w
  rw [e] at this
  exact this

theorem tab7_renew {k : Nat} {en : Int} {f : Int → Option Int} (h : Tab7 k en f) {T x : Int} (t1 : 1 ≤ T) (t2 : T ≤ 1000) (x0 : 0 ≤ x) (x1 : x ≤ 1000000) (hlt : en < x + T) :
    ((f 7).isSome = false ∨ ((f 7).isSome = true ∧ (f 7).getD 0 < behind x T)) ∧ Tab7 (k + 1) (max en (x + T)) (upd f 7 (behind x T)) := by
  have eb : behind x T = x + T := behind_small (by omega)
  rw [eb]
  refine ⟨?_, .inr ⟨by omega, by omega, ?_, fun y => ?_⟩⟩
  · rcases h with ⟨_, _, h⟩ | ⟨_, _, _, h⟩
    · left; rw [h]; rfl
    · right; rw [h]; exact ⟨rfl, hlt⟩
  · rcases h with ⟨_, h1, _⟩ | ⟨_, _, h2, _⟩ <;> omega
  · unfold upd
    by_cases hy : y = 7
    · rw [if_pos hy, if_pos hy]; congr 1; omega
    · rw [if_neg hy, if_neg hy]
      rcases h with ⟨_, _, h⟩ | ⟨_, _, _, h⟩
      · exact h y
      · rw [h, if_neg hy]

theorem tab7_keep {k : Nat} {en : Int} {f : Int → Option Int} (h : Tab7 k en f) {T x : Int} (t1 : 1 ≤ T) (t2 : T ≤ 1000) (x0 : 0 ≤ x) (x1 : x ≤ 1000000) (hle : x + T ≤ en) :
    f 7 = some en ∧ behind x T ≤ en ∧ Tab7 (k + 1) (max en (x + T)) f := by
  have eb : behind x T = x + T := behind_small (by omega)
  rcases h with ⟨_, h1, _⟩ | ⟨h0, h1, h2, h⟩
  · omega
  · refine ⟨h 7, by omega, .inr ⟨by omega, by omega, by omega, fun y => ?_⟩⟩
    rw [h]; split
    · congr 1; omega
    · rfl

set_option maxHeartbeats 2000000 in
set_option maxRecDepth 100000 in
theorem leaseRenews_walk (term : Int) (a1 : Option Addr) (len1 cap1 : Nat) (z1 : List Int) (now : Int) (w : World) (w0 : (Lit.int .i64 term).wf = true) (w1 : IsRow .i64 w a1 len1 cap1 z1) (w2 : (Lit.int .i64 now).wf = true) :
    Calls Try.prog 5 #[.int .i64 term, .slice a1 len1 cap1, .int .i64 now] w fun e w' => e = .returned (.bool true) ∧ Below w.heap.size w w' := by
  have hm1 := w1.len_le
  unfold maxLen at hm1
  have hr0 := range64 w0
  have hr2 := range64 w2
  by_cases hbig : 1 ≤ term ∧ term ≤ 1000 ∧ len1 ≤ 40 ∧ 0 ≤ now ∧ now ≤ 1000000
  case neg =>
    go_enter Try.func5, Try.ntmps5
    go_wp2_with (go_at_call 8; refine (alive_any _).mono ?_; rintro e w' ⟨rfl, hb⟩)
    any_goals (go_ret; exact ⟨rfl, hb⟩)
    all_goals (exfalso; omega)
  case pos =>
    obtain ⟨t1, t2, hl1, n0, n1⟩ := hbig
    have d1 : decide (term < 1) = false := by simp; omega
    have d2 : decide (1000 < term) = false := by simp; omega
    have d3 : decide (now < 0) = false := by simp; omega
    have d4 : decide (1000000 < now) = false := by simp; omega
    go_enter Try.func5, Try.ntmps5
    go_wp2_with (go_at_call 14; refine (newTable_in term _ (by omega) (by omega)).mono ?_; rintro e wx ⟨rfl, hT0, hC0⟩)
    go_loopg [8, 9] len1 (fun g s8 s9 wr => LRRel w term len1 g s8 s9 wr)
    case atStart => exact ⟨0, 0, -1, _, Nat.zero_le _, rfl, Nat.le_refl _, rfl, rfl, .inl ⟨rfl, rfl, fun _ => rfl⟩, hT0, hC0⟩
    case round =>
      obtain ⟨k, n, en, f, hk, rfl, hn, rfl, rfl, h7, hT, hC⟩ := hrel
      clear hT0 hC0
      by_cases hlt : k < len1
      case pos =>
        obtain ⟨b1, o1, rfl, hb1, hc1, hr1⟩ := w1.at_ hlt
        have hx1 := hc1 k hlt
        have hr := hr1 k hlt
        rw [← hC.cell (p := ⟨b1, o1 + k, none⟩) hb1 (by simp)] at hx1
        generalize z1.getD k 0 = x at hx1 hr
        clear hc1 hr1
        by_cases hx : 0 ≤ x ∧ x ≤ 1000000
        case neg =>
          go_wp2_with (go_at_call 8; refine (alive_any _).mono ?_; rintro e w' ⟨rfl, hb⟩)
          any_goals (go_ret; exact ⟨rfl, (hC.ofBelow hb).below (Nat.le_refl _) (by simp)⟩)
          all_goals (exfalso; omega)
        case pos =>
          obtain ⟨x0, x1⟩ := hx
          have e1 : decide (x < 0) = false := by simp; omega
          have e2 : decide (1000000 < x) = false := by simp; omega
          have hen : -1 ≤ en ∧ en ≤ 1001000 := by rcases h7 with ⟨_, h, _⟩ | ⟨_, h1, h2, _⟩ <;> omega
          obtain ⟨hen1, hen2⟩ := hen
          by_cases hgt : en < x + term
          case pos =>
            obtain ⟨hc, h8⟩ := tab7_renew h7 t1 t2 x0 x1 hgt
            have hR := renew_yes hT (by omega) (by omega) (by omega) 7 x (by omega) (by omega) (by omega) (by omega) hc
            clear hc
            go_wp2_with (go_at_call 15; refine hR.mono ?_; rintro e wy ⟨rfl, hT2, hC2⟩; have hx2 := (hC2.cell (p := ⟨b1, o1 + k, none⟩) (lt_of_cell hx1) (by simp; omega)).trans hx1)
            go_roundg (len1 - (k + 1))
            case measure => omega
            case rel => exact ⟨k + 1, n + 1, _, _, by omega, rfl, by omega, by go_num, rfl, h8, hT2, hC.step hC2 (by simp)⟩
          case neg =>
            obtain ⟨hf, hle, h8⟩ := tab7_keep h7 t1 t2 x0 x1 (by omega)
            have hR := renew_no hT (by omega) (by omega) 7 x en (by omega) (by omega) (by omega) (by omega) hf hle
            clear hf hle
            go_wp2_with (go_at_call 15; refine hR.mono ?_; rintro e wy ⟨rfl, rfl⟩)
            go_roundg (len1 - (k + 1))
            case measure => omega
            case rel => exact ⟨k + 1, n, _, _, by omega, rfl, by omega, by go_num, rfl, h8, hT, hC⟩
      case neg =>
        obtain rfl : k = len1 := by omega
        have hBk := hC.below (B := w.heap.size) (Nat.le_refl _) (by simp)
        by_cases h0 : k = 0
        case pos =>
          subst h0
          have hf : ∀ x, f x = none := by
            rcases h7 with ⟨_, _, h⟩ | ⟨h, _⟩
            · exact h
            · omega
          have hLt := late_miss now hT (by omega) (fun x c hx => by rw [hf] at hx; cases hx)
          go_wp2_with (first
            | (go_at_call 16; refine hLt.mono ?_; rintro e wy ⟨a9, cap9, rfl, hb9⟩; have hT9 := hT.chg ((Chg.refl [] _).ofBelow hb9) (by simp) (by simp))
            | (go_at_call 17; refine (leftM_none hT9 7 now (by omega) (by omega) (hf 7)).mono ?_; rintro e wz ⟨rfl, rfl⟩)
            | (go_at_call 8; refine (alive_any _).mono ?_; rintro e w' ⟨rfl, hb⟩))
          go_ret
          exact ⟨rfl, hBk.trans ((hb9.mono hBk.size).trans (hb.mono (by have := hb9.size; have := hBk.size; omega)))⟩
        case neg =>
          obtain ⟨he1, he2, hf⟩ : 1 ≤ en ∧ en ≤ 1001000 ∧ ∀ x, f x = if x = 7 then some en else none := by
            rcases h7 with ⟨h, _⟩ | ⟨_, h1, h2, h⟩
            · omega
            · exact ⟨h1, h2, h⟩
          have hz : ((k : Int) == 0) = false := by simp; omega
          by_cases hnow : en ≤ now
          case pos =>
            have hmx : max (en - now) 0 = 0 := by omega
            have hLt := late_hit now 7 en hT (by omega) hf hnow
            go_wp2_with fail
            refine hLt.mono ?_
            rintro e wy ⟨g9, cap9, rfl, _, hb9⟩
            have hT9 := hT.chg ((Chg.refl [] _).ofBelow hb9) (by simp) (by simp)
            have hC9 := hC.ofBelow hb9
            have hL := leftM_some hT9 7 now en (by omega) (by omega) (hf 7) (by omega) (by omega) (by omega) (by omega)
            rw [show leftOf en now = 0 by unfold leftOf; split <;> omega] at hL
            clear hLt hT hC hb9
            go_wp2_with fail
            refine hL.mono ?_
            rintro e wz ⟨rfl, rfl⟩
            go_wp2_with fail
            refine (alive_any _).mono ?_
            rintro e wa ⟨rfl, hba⟩
            have hTa := hT9.chg ((Chg.refl [] _).ofBelow hba) (by simp) (by simp)
            have hCa := hC9.ofBelow hba
            have hD := drop_any hTa 7 (by omega) (by omega)
            rw [show (f 7).isSome = true by rw [hf]; rfl] at hD
            clear hL hT9 hC9 hba
            go_wp2_with fail
            refine hD.mono ?_
            rintro e wb ⟨rfl, hTb, hCb⟩
            have hCb2 := hCa.step hCb (by simp)
            have hf2 : ∀ x, del f 7 x = none := fun x => by unfold del; rw [hf]; split <;> simp_all
            have hD2 := drop_any hTb 7 (by omega) (by omega)
            rw [show (del f 7 7).isSome = false by rw [hf2]; rfl] at hD2
            clear hD hTa hCa hCb
            go_wp2_with fail
            refine hD2.mono ?_
            rintro e wd ⟨rfl, hTd, hCd⟩
            have hCd2 := hCb2.step hCd (by simp)
            have hLt2 := late_miss now hTd (by omega) (fun x c hx => by unfold del at hx; split at hx; cases hx; have := hf2 x; unfold del at this; simp_all)
            clear hD2 hTb hCb2 hCd
            go_wp2_with fail
            refine hLt2.mono ?_
            rintro e we ⟨a8, cap8, rfl, hb8⟩
            go_wp2_with fail
            go_ret
            exact ⟨rfl, (hCd2.ofBelow hb8).below (Nat.le_refl _) (by simp)⟩
          case neg =>
            have hmx : max (en - now) 0 = en - now := by omega
            have hLt := late_miss now hT (by omega) (fun x c hx => by rw [hf] at hx; split at hx <;> (cases hx; try omega))
            go_wp2_with fail
            refine hLt.mono ?_
            rintro e wy ⟨a9, cap9, rfl, hb9⟩
            have hT9 := hT.chg ((Chg.refl [] _).ofBelow hb9) (by simp) (by simp)
            have hC9 := hC.ofBelow hb9
            have hL := leftM_some hT9 7 now en (by omega) (by omega) (hf 7) (by omega) (by omega) (by omega) (by omega)
            rw [show leftOf en now = en - now by unfold leftOf; split <;> omega] at hL
            clear hLt hT hC hb9
            go_wp2_with fail
            refine hL.mono ?_
            rintro e wz ⟨rfl, rfl⟩
            go_wp2_with fail
            refine (alive_any _).mono ?_
            rintro e wa ⟨rfl, hba⟩
            have hTa := hT9.chg ((Chg.refl [] _).ofBelow hba) (by simp) (by simp)
            have hCa := hC9.ofBelow hba
            have hD := drop_any hTa 7 (by omega) (by omega)
            rw [show (f 7).isSome = true by rw [hf]; rfl] at hD
            clear hL hT9 hC9 hba
            go_wp2_with fail
            refine hD.mono ?_
            rintro e wb ⟨rfl, hTb, hCb⟩
            have hCb2 := hCa.step hCb (by simp)
            have hf2 : ∀ x, del f 7 x = none := fun x => by unfold del; rw [hf]; split <;> simp_all
            have hD2 := drop_any hTb 7 (by omega) (by omega)
            rw [show (del f 7 7).isSome = false by rw [hf2]; rfl] at hD2
            clear hD hTa hCa hCb
            go_wp2_with fail
            refine hD2.mono ?_
            rintro e wd ⟨rfl, hTd, hCd⟩
            have hCd2 := hCb2.step hCd (by simp)
            have hLt2 := late_miss now hTd (by omega) (fun x c hx => by unfold del at hx; split at hx; cases hx; have := hf2 x; unfold del at this; simp_all)
            clear hD2 hTb hCb2 hCd
            go_wp2_with fail
            refine hLt2.mono ?_
            rintro e we ⟨a8, cap8, rfl, hb8⟩
            go_wp2_with fail
            go_ret
            exact ⟨ret_bool (by simp; omega), (hCd2.ofBelow hb8).below (Nat.le_refl _) (by simp)⟩

end Go.Proofs.Ytbekjfbaelobdaa
