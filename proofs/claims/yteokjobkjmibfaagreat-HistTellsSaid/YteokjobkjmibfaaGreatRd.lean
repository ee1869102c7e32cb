/- The reference's counts. Condition: the events can be read. -/
import Derived.Test.YteokjobkjmibfaaGreatRc
namespace Go.Proofs.YteokjobkjmibfaaGreat
open Go.RowKit Go.Maps

def rcstep (n ep m : Int) (x : Ev) : Int := if x.node = n ∧ x.epoch = ep then max m x.lsn else m
/-- the Lsn that the k-th counts as -/
def rcounts (L : List Ev) (k : Nat) : Int := if (L.getD k default).lsn = 0 then (L.take k).foldl (rcstep (L.getD k default).node (L.getD k default).epoch) 0 else (L.getD k default).lsn

theorem rcstep_range {n ep m : Int} {x : Ev} (h : 0 ≤ m ∧ m ≤ 18446744073709551615) (hx : wfu64 x.lsn) : 0 ≤ rcstep n ep m x ∧ rcstep n ep m x ≤ 18446744073709551615 := by
  have := rangeu64 hx
  unfold rcstep
  split <;> omega

set_option maxHeartbeats 4000000 in
theorem rcounts_any {w : World} {a : Option Addr} {L : List Ev} (h : EvRow w a L) {k : Nat} (hk : k < L.length) (cap : Nat) :
    Calls Tryz.prog 35 #[.slice a L.length cap, .int .i64 k] w fun e w' => e = .returned (.int .u64 (rcounts L k)) ∧ Below w.heap.size w w' := by
  have hbig := h.2.1
  obtain ⟨bk, ok, rfl, hcs, hok⟩ := h.at_ hk
  obtain ⟨k0, k1, k2, k3, _, _⟩ := hcs k hk
  obtain ⟨y, hy⟩ : ∃ y, L.getD k default = y := ⟨_, rfl⟩
  have hrc : rcounts L k = if y.lsn = 0 then (L.take k).foldl (rcstep y.node y.epoch) 0 else y.lsn := by unfold rcounts; rw [hy]
  rw [hy] at k0 k1 k2 k3 hok
  have HRC := Lib.hid hrc
  have HY := Lib.hid hy
  have r3 := rangeu64 hok.2.2.2
  have HOK := Lib.hid hok
  have HCS := Lib.hid hcs
  clear hrc hy hok hcs
  obtain ⟨yk, yn, ye, yl, yrs, yws, yra, yrc, ywa, ywc⟩ := y
  simp only at k0 k1 k2 k3 r3
  have f1 : (0 : Int) ≤ (k : Int) := by omega
  have f2 : (k : Int) < (L.length : Int) := by omega
  by_cases hl : yl = 0
  case neg =>
    have hr : rcounts L k = yl := by rw [HRC.out, if_neg hl]
    have HR := Lib.hid hr
    have hq : (yl == 0) = false := by simp [hl]
    clear hr
    go_enter Tryz.func35, Tryz.ntmps35
    go_wp2_with fail
    go_loopg [5, 6] 1 (fun q s5 s6 wx => s5 = .int .u64 yl ∧ s6 = .int .i64 0 ∧ q = 1 ∧ w = wx)
    case atStart => exact ⟨rfl, rfl, rfl, rfl⟩
    case round =>
      obtain ⟨rfl, rfl, rfl, rfl⟩ := hrel
      by_cases hk0 : 0 < k
      · go_wp2_with fail
        go_ret
        exact ⟨by rw [HR.out]; rfl, Below.refl _ _⟩
      · go_wp2_with fail
        go_ret
        exact ⟨by rw [HR.out]; rfl, Below.refl _ _⟩
  case pos =>
    subst hl
    have hr : rcounts L k = (L.take k).foldl (rcstep yn ye) 0 := by rw [HRC.out, if_pos rfl]
    have HR := Lib.hid hr
    clear hr
    go_enter Tryz.func35, Tryz.ntmps35
    go_wp2_with fail
    go_loopg [5, 6] k (fun q s5 s6 wx => ∃ (j : Nat) (m : Int), j ≤ k ∧ q = k - j ∧ s6 = .int .i64 j ∧ s5 = .int .u64 m ∧ m = (L.take j).foldl (rcstep yn ye) 0 ∧ (0 ≤ m ∧ m ≤ 18446744073709551615) ∧ Chg [] w wx)
    case atStart => exact ⟨0, 0, Nat.zero_le _, rfl, rfl, rfl, rfl, by omega, Chg.refl _ _⟩
    case round =>
      obtain ⟨j, m, hj, rfl, rfl, rfl, hm, hrange, hC⟩ := hrel
      have c1 := (hC.cell (lt_of_cell k1) (by simp)).trans k1
      have c2 := (hC.cell (lt_of_cell k2) (by simp)).trans k2
      have c3 := (hC.cell (lt_of_cell k3) (by simp)).trans k3
      by_cases hlt : j < k
      case neg =>
        obtain rfl : j = k := by omega
        have HM := Lib.hid hm
        clear hm
        go_wp2_with fail
        go_ret
        exact ⟨by rw [HR.out, ← HM.out]; rfl, hC.below (Nat.le_refl _) (by simp)⟩
      case pos =>
        have hjL : j < L.length := by omega
        obtain ⟨_, d1, d2, d3, _, _⟩ := (HCS.out.chg hC (by simp)) j hjL
        have hxo : (L.getD j default).ok := h.1 _ (getD_mem hjL)
        have hst : (L.take (j + 1)).foldl (rcstep yn ye) 0 = rcstep yn ye ((L.take j).foldl (rcstep yn ye) 0) (L.getD j default) := by
          rw [take_step hjL, List.foldl_append]; rfl
        rw [← hm] at hst
        have hrange2 := rcstep_range (n := yn) (ep := ye) (x := L.getD j default) hrange hxo.2.2.2
        generalize L.getD j default = x at d1 d2 d3 hst hxo hrange2
        obtain ⟨xk, xn, xe, xl, xrs, xws, xra, xrc, xwa, xwc⟩ := x
        simp only at d1 d2 d3
        have r3 := rangeu64 hxo.2.2.2
        simp only at r3
        have g1 : (0 : Int) ≤ (j : Int) := by omega
        have g2 : (j : Int) < (L.length : Int) := by omega
        clear hm hxo
        by_cases q2 : xn = yn
        case neg =>
          have hb : rcstep yn ye m ⟨xk, xn, xe, xl, xrs, xws, xra, xrc, xwa, xwc⟩ = m := by unfold rcstep; rw [if_neg (fun h => q2 h.1)]
          rw [hb] at hst
          have HST := Lib.hid hst
          have hq : (xn == yn) = false := by simp [q2]
          clear hst hb hrange2
          go_wp2_with fail
          go_quiet (fail)
          go_wp2_with fail
          go_roundg (k - (j + 1))
          case measure => omega
          case rel => exact ⟨j + 1, m, by omega, rfl, by go_num, rfl, HST.out.symm, hrange, hC.drewN _⟩
        case pos =>
          by_cases q3 : xe = ye
          case neg =>
            have hb : rcstep yn ye m ⟨xk, xn, xe, xl, xrs, xws, xra, xrc, xwa, xwc⟩ = m := by unfold rcstep; rw [if_neg (fun h => q3 h.2)]
            rw [hb] at hst
            have HST := Lib.hid hst
            have hq : (xn == yn) = true := by simp [q2]
            have hq3 : (xe == ye) = false := by simp [q3]
            clear hst hb hrange2 q2
            go_wp2_with fail
            go_quiet (fail)
            go_wp2_with fail
            go_roundg (k - (j + 1))
            case measure => omega
            case rel => exact ⟨j + 1, m, by omega, rfl, by go_num, rfl, HST.out.symm, hrange, hC.drewN _⟩
          case pos =>
            have hb : rcstep yn ye m ⟨xk, xn, xe, xl, xrs, xws, xra, xrc, xwa, xwc⟩ = max m xl := by unfold rcstep; rw [if_pos ⟨q2, q3⟩]
            rw [hb] at hst hrange2
            have HST := Lib.hid hst
            have HR2 := Lib.hid hrange2
            have hq : (xn == yn) = true := by simp [q2]
            have hq3 : (xe == ye) = true := by simp [q3]
            clear hst hb hrange2 q2 q3
            go_wp2_with fail
            go_quiet (fail)
            go_wp2_with fail
            go_roundg (k - (j + 1))
            case measure => omega
            case rel => exact ⟨j + 1, max m xl, by omega, rfl, by go_num, rfl, HST.out.symm, HR2.out, hC.drewN _⟩

end Go.Proofs.YteokjobkjmibfaaGreat
