/- The reference's Cuts. Condition: the events can be read. -/
import Derived.Test.YteokjobkjmibfaaGreatRd
namespace Go.Proofs.YteokjobkjmibfaaGreat
open Go.RowKit Go.Maps

structure SecR (L : List Ev) (w wr : World) (k : Nat) (a : Option Addr) (cap : Nat) (R : List Row1) : Prop where
  chs : R.map Row1.C = chs L k
  own : OwnUU wr w.heap.size a cap R
  chg : Chg [] w wr
  few : R.length ≤ k

theorem quo_lt {m d : Int} (hm : 1 ≤ m) : (Int.tdiv 3000 m < d) ↔ 3000 < m * d := by
  rw [Int.tdiv_eq_ediv_of_nonneg (by omega), Int.ediv_lt_iff_lt_mul (by omega), Int.mul_comm]

set_option maxHeartbeats 8000000 in
set_option maxRecDepth 1000000 in
theorem rcuts_any {w : World} {la : Option Addr} {L : List Ev} (h : EvRow w la L) (hlen : L.length ≤ 400) (lc : Nat) (hlc : L.length ≤ lc) :
    Calls Tryz.prog 9 #[.slice la L.length lc] w (CutsPost L w) := by
  by_cases h200 : 200 < L.length
  · have hce : cutsErr L = 2 := by unfold cutsErr; rw [if_pos h200]
    have HCE := Lib.hid hce
    clear hce h
    go_enter Tryz.func9, Tryz.ntmps9
    go_wp2_with fail
    go_ret2
    exact CutsPost.fail HCE.out (by decide) (Below.refl _ _)
  · have HOKS := Lib.hid h.1
    have H200 := Lib.hid h200
    go_enter Tryz.func9, Tryz.ntmps9
    go_wp2_with fail
    go_loopg [4, 5, 6] L.length (fun q s4 s5 s6 wr => ∃ (k : Nat) (m : Int) (a : Option Addr) (cap : Nat) (R : List Row1), k ≤ L.length ∧ q = L.length - k ∧ s6 = .int .i64 k ∧ s5 = .int .i64 m ∧ ways L k = some m ∧ s4 = .slice a R.length cap ∧ SecR L w wr k a cap R)
    case atStart => exact ⟨0, 1, none, 0, [], Nat.zero_le _, rfl, rfl, rfl, rfl, rfl, ⟨rfl, OwnUU.nil _ _, Chg.refl _ _, Nat.le_refl _⟩⟩
    case round =>
      obtain ⟨k, m, a, cap, R, hk, rfl, rfl, rfl, hw, rfl, hS⟩ := hrel
      have hC := hS.chg
      have hfew := hS.few
      have HS := Lib.hid hS
      have HW := Lib.hid hw
      clear hw hS
      by_cases hlt : k < L.length
      case neg =>
        obtain rfl : k = L.length := by omega
        go_wp2_with fail
        go_loopg [12] L.length (fun q s12 wi => ∃ j : Nat, j ≤ L.length ∧ q = L.length - j ∧ s12 = .int .i64 j ∧ (∀ i, i < j → (L.getD i default).bad = false) ∧ wr = wi)
        case atStart => exact ⟨0, Nat.zero_le _, rfl, rfl, fun i hi => by omega, rfl⟩
        case round =>
          obtain ⟨j, hj, rfl, rfl, hgood, rfl⟩ := hrel
          have HG := Lib.hid hgood
          clear hgood
          by_cases hjl : j < L.length
          case neg =>
            obtain rfl : j = L.length := by omega
            have h0 : cutsErr L = 0 := by unfold cutsErr; rw [if_neg H200.out, HW.out, none_bad HG.out]; rfl
            have H0 := Lib.hid h0
            clear h0
            go_wp2_with fail
            go_ret2
            exact ⟨a, cap, R, by rw [H0.out]; rfl, fun h => absurd H0.out h, fun _ => HS.out.chs, HS.out.own, hC.below (Nat.le_refl _) (by simp)⟩
          case pos =>
            have hLr := h.chgN hC (by simp)
            obtain ⟨b, o, rfl, hcs6, hok⟩ := hLr.at_ hjl
            obtain ⟨d0, d1, d2, d3, d4, d5⟩ := hcs6 j hjl
            obtain ⟨x, hx⟩ : ∃ x, L.getD j default = x := ⟨_, rfl⟩
            rw [hx] at d0
            have HX := Lib.hid hx
            clear hx hcs6 hok hLr d1 d2 d3 d4 d5
            obtain ⟨xk, xn, xe, xl, xrs, xws, xra, xrc, xwa, xwc⟩ := x
            simp only at d0
            by_cases q1 : xk < 1
            · go_wp2_with fail
              go_ret2
              exact CutsPost.fail (Sec.bad hjl (by rw [HX.out]; simp [Ev.bad, q1]) H200.out HW.out) (by decide) (hC.below (Nat.le_refl _) (by simp))
            by_cases q4 : 4 < xk
            · go_wp2_with fail
              go_ret2
              exact CutsPost.fail (Sec.bad hjl (by rw [HX.out]; simp [Ev.bad, q4]) H200.out HW.out) (by decide) (hC.below (Nat.le_refl _) (by simp))
            have hgood : (L.getD j default).bad = false := by rw [HX.out]; simp [Ev.bad]; omega
            have HGOOD := Lib.hid hgood
            clear hgood
            go_wp2_with fail
            go_roundg (L.length - (j + 1))
            case measure => omega
            case rel => exact ⟨j + 1, by omega, rfl, by go_num, fun i hi => by
              by_cases e : i = j
              · rw [e]; exact HGOOD.out
              · exact HG.out i (by omega), rfl⟩
      case pos =>
        have hLr := h.chgN hC (by simp)
        obtain ⟨b, o, rfl, hcs6, hok⟩ := hLr.at_ hlt
        obtain ⟨d0, d1, d2, d3, d4, d5⟩ := hcs6 k hlt
        obtain ⟨x, hx⟩ : ∃ x, L.getD k default = x := ⟨_, rfl⟩
        rw [hx] at d0 d1 d2 d3 d4 d5
        have HX := Lib.hid hx
        have HCS := Lib.hid hcs6
        clear hx hcs6 hok hLr
        obtain ⟨xk, xn, xe, xl, xrs, xws, xra, xrc, xwa, xwc⟩ := x
        simp only at d0 d1 d2 d3 d4 d5
        by_cases q3 : xk = 3
        case neg =>
          have hst : ways L (k + 1) = some m := by
            unfold ways; rw [HW.out, HX.out]; simp only [Option.bind_some]; rw [if_neg q3]
          have hst2 : chs L (k + 1) = chs L k := by
            show chs L k ++ _ = _
            rw [HX.out, if_neg q3, List.append_nil]
          have HST := Lib.hid hst
          have HST2 := Lib.hid hst2
          clear hst hst2
          go_wp2_with fail
          go_roundg (L.length - (k + 1))
          case measure => omega
          case rel => exact ⟨k + 1, m, a, cap, R, by omega, rfl, by go_num, rfl, HST.out, rfl, ⟨by rw [HST2.out]; exact HS.out.chs, HS.out.own, HS.out.chg, by omega⟩⟩
        case pos =>
          subst q3
          go_wp2_with fail
          go_loopg [7, 8, 9] k (fun q s7 s8 s9 wi => ∃ (j : Nat) (p : Int × Int), j ≤ k ∧ q = k - j ∧ s9 = .int .i64 j ∧ s7 = .int .u64 p.1 ∧ s8 = .int .u64 p.2 ∧ bnd xn xe (L.take j) = p ∧ Chg [] wr wi)
          case atStart => exact ⟨0, (0, 0), Nat.zero_le _, rfl, rfl, rfl, rfl, rfl, Chg.refl _ _⟩
          case round =>
            obtain ⟨j, ⟨pf, pt⟩, hj, rfl, rfl, rfl, rfl, hp, hCi⟩ := hrel
            have HP := Lib.hid hp
            clear hp
            have e0 := (hCi.cell (lt_of_cell d0) (by simp)).trans d0
            have e1 := (hCi.cell (lt_of_cell d1) (by simp)).trans d1
            have e2 := (hCi.cell (lt_of_cell d2) (by simp)).trans d2
            have f1 : (0 : Int) ≤ (k : Int) := by omega
            have f2 : (k : Int) < (L.length : Int) := by omega
            by_cases hjk : j < k
            case pos =>
              have hjL : j < L.length := by omega
              obtain ⟨c0, c1, c2, c3, _, _⟩ := (HCS.out.chg hCi (by simp)) j hjL
              have hst : bnd xn xe (L.take (j + 1)) = bstep xn xe (pf, pt) (L.getD j default) := by
                rw [take_step hjL, bnd, List.foldl_append, ← HP.out]; rfl
              generalize L.getD j default = y at c0 c1 c2 c3 hst
              obtain ⟨yk, yn, ye, yl, yrs, yws, yra, yrc, ywa, ywc⟩ := y
              simp only at c0 c1 c2 c3
              have g1 : (0 : Int) ≤ (j : Int) := by omega
              have g2 : (j : Int) < (L.length : Int) := by omega
              clear d0 d1 d2 d3 d4 d5
              by_cases t1 : yn = xn
              case neg =>
                have hb : bstep xn xe (pf, pt) ⟨yk, yn, ye, yl, yrs, yws, yra, yrc, ywa, ywc⟩ = (pf, pt) := by unfold bstep; rw [if_neg (fun h => t1 h.1)]
                rw [hb] at hst
                have HST := Lib.hid hst
                have hq : (yn == xn) = false := by simp [t1]
                clear hst hb
                go_wp2_with fail
                go_quiet (fail)
                go_wp2_with fail
                go_roundg (k - (j + 1))
                case measure => omega
                case rel => exact ⟨j + 1, (pf, pt), by omega, rfl, by go_num, rfl, rfl, HST.out, hCi.drewN _⟩
              case pos =>
              by_cases t2 : ye = xe
              case neg =>
                have hb : bstep xn xe (pf, pt) ⟨yk, yn, ye, yl, yrs, yws, yra, yrc, ywa, ywc⟩ = (pf, pt) := by unfold bstep; rw [if_neg (fun h => t2 h.2)]
                rw [hb] at hst
                have HST := Lib.hid hst
                have hq2 : (ye == xe) = false := by simp [t2]
                clear hst hb
                obtain rfl := t1.symm
                go_wp2_with fail
                go_quiet (fail)
                go_wp2_with fail
                go_roundg (k - (j + 1))
                case measure => omega
                case rel => exact ⟨j + 1, (pf, pt), by omega, rfl, by go_num, rfl, rfl, HST.out, hCi.drewN _⟩
              case pos =>
              obtain rfl := t1.symm
              obtain rfl := t2.symm
              by_cases t3 : yk = 2
              case pos =>
                have hb : bstep xn xe (pf, pt) ⟨yk, xn, xe, yl, yrs, yws, yra, yrc, ywa, ywc⟩ = (max pf yl, pt) := by unfold bstep; rw [if_pos ⟨rfl, rfl⟩, if_pos t3]
                rw [hb] at hst
                have HST := Lib.hid hst
                clear hst hb
                subst t3
                go_wp2_with fail
                go_quiet (fail)
                go_wp2_with fail
                go_roundg (k - (j + 1))
                case measure => omega
                case rel => exact ⟨j + 1, (max pf yl, pt), by omega, rfl, by go_num, rfl, rfl, HST.out, hCi.drewN _⟩
              case neg =>
              by_cases t4 : yk = 1
              case pos =>
                have hb : bstep xn xe (pf, pt) ⟨yk, xn, xe, yl, yrs, yws, yra, yrc, ywa, ywc⟩ = (pf, max pt yl) := by unfold bstep; rw [if_pos ⟨rfl, rfl⟩, if_neg t3, if_pos t4]
                rw [hb] at hst
                have HST := Lib.hid hst
                clear hst hb
                subst t4
                go_wp2_with fail
                go_quiet (fail)
                go_wp2_with fail
                go_roundg (k - (j + 1))
                case measure => omega
                case rel => exact ⟨j + 1, (pf, max pt yl), by omega, rfl, by go_num, rfl, rfl, HST.out, hCi.drewN _⟩
              case neg =>
                have hb : bstep xn xe (pf, pt) ⟨yk, xn, xe, yl, yrs, yws, yra, yrc, ywa, ywc⟩ = (pf, pt) := by unfold bstep; rw [if_pos ⟨rfl, rfl⟩, if_neg t3, if_neg t4]
                rw [hb] at hst
                have HST := Lib.hid hst
                have hq3 : (yk == 2) = false := by simp [t3]
                have hq4 : (yk == 1) = false := by simp [t4]
                clear hst hb
                go_wp2_with fail
                go_quiet (fail)
                go_wp2_with fail
                go_roundg (k - (j + 1))
                case measure => omega
                case rel => exact ⟨j + 1, (pf, pt), by omega, rfl, by go_num, rfl, rfl, HST.out, hCi.drewN _⟩
            case neg =>
              obtain rfl : j = k := by omega
              have hlo : lo L j = pf := by unfold lo; rw [HX.out]; simp only; rw [HP.out]
              have hhi : hi L j = max pt pf := by unfold hi; rw [HX.out]; simp only; rw [HP.out]; exact Int.max_comm _ _
              have hlh := lohi HOKS.out j
              have hmr := ways_range HOKS.out j m HW.out
              rw [hlo, hhi] at hlh
              have hst : ways L (j + 1) = wstep m pf (max pt pf) := by
                rw [ways, HW.out, HX.out]; simp only [Option.bind_some]; rw [if_pos trivial, hlo, hhi]
              have hst2 : chs L (j + 1) = chs L j ++ [rng pf (max pt pf - pf + 1).toNat] := by
                show chs L j ++ _ = _
                rw [HX.out, if_pos rfl, hlo, hhi]
              have HST := Lib.hid hst
              have HST2 := Lib.hid hst2
              clear hlo hhi hst hst2 d0 d1 d2 d3 d4 d5 e0 e1 e2
              go_upto_region 19 with (fail)
              generalize max pt pf = u at hlh HST HST2 ⊢
              obtain ⟨hlh1, hlh2, hlh3⟩ := hlh
              obtain ⟨hmr1, hmr2⟩ := hmr
              have hCx := hC.trans hCi
              have hend : ways L (j + 1) = none → cutsErr L = 2 := fun h0 => by
                unfold cutsErr
                rw [if_neg H200.out, if_pos (ways_none h0 _ hlt)]
              have HEND := Lib.hid hend
              clear hend
              by_cases g1 : 3000 ≤ u - pf
              · go_wp2_with fail
                go_ret2
                exact CutsPost.fail (HEND.out (by rw [HST.out]; unfold wstep; rw [if_pos (.inl g1)])) (by decide) (hCx.below (Nat.le_refl _) (by simp))
              have hquo := quo_lt (d := u - pf + 1) hmr1
              have hq1 : 0 ≤ Int.tdiv 3000 m := by rw [Int.tdiv_eq_ediv_of_nonneg (by omega)]; exact Int.ediv_nonneg (by omega) (by omega)
              have hq2 : Int.tdiv 3000 m ≤ 3000 := by rw [Int.tdiv_eq_ediv_of_nonneg (by omega)]; exact Int.ediv_le_self _ (by omega)
              by_cases g2 : 3000 < m * (u - pf + 1)
              · have g3 := hquo.2 g2
                have HG2 := Lib.hid g2
                clear hquo g2
                go_wp2_with fail
                go_ret2
                exact CutsPost.fail (HEND.out (by rw [HST.out]; unfold wstep; rw [if_pos (.inr HG2.out)])) (by decide) (hCx.below (Nat.le_refl _) (by simp))
              · have g3 : ¬ Int.tdiv 3000 m < u - pf + 1 := fun h => g2 (hquo.1 h)
                have hp1 : 1 * (u - pf + 1) ≤ m * (u - pf + 1) := Int.mul_le_mul_of_nonneg_right hmr1 (by omega)
                have hst3 : ways L (j + 1) = some (m * (u - pf + 1)) := by rw [HST.out]; unfold wstep; rw [if_neg (by omega)]
                have HST3 := Lib.hid hst3
                clear hst3 hquo
                obtain ⟨w2, rfl⟩ : ∃ w2, w2 = wr := ⟨wr, rfl⟩
                go_wp2_with fail
                go_loopg [10, 11] (u - pf + 1).toNat (fun q s10 s11 wi => ∃ (i : Nat) (a2 : Option Addr) (cap2 : Nat), (i : Int) ≤ u - pf ∧ q = (u - pf + 1).toNat - i ∧ s11 = .int .u64 (pf + i) ∧ s10 = .slice a2 i cap2 ∧ OwnU wi w2.heap.size a2 cap2 (rng pf i) ∧ Chg [] w2 wi)
                case atStart => exact ⟨0, none, 0, by omega, rfl, by simp, rfl, OwnU.nil _ _, Chg.refl _ _⟩
                case round =>
                  obtain ⟨i, a2, cap2, hi, rfl, rfl, rfl, hU, hC2⟩ := hrel
                  have hwi := hC2.size
                  have hlU := rng_length pf i
                  have HLU := Lib.hid hlU
                  clear hlU
                  have hU1 := hU.chg ((Chg.refl [] wr).alloc (.cells #[.int .u64 (pf + i)] 64)) (by simp)
                  have hlx : wfu64 (pf + i) := wfu64_of (by omega) (by omega)
                  have hB1 := Blk.new wr #[.int .u64 (pf + i)] 64
                  have HU := Lib.hid hU
                  have HU1 := Lib.hid hU1
                  clear hU hU1
                  by_cases hil : pf + (i : Int) = u
                  case neg =>
                    have hne : (pf + (i : Int) == u) = false := by simp [hil]
                    go_wp2_with (at_builtin; refine wpList_appendU _ rfl _ _ rfl w2.heap.size a2 cap2 i (rng pf i) HLU.out rfl HU1.out (by simp; omega) (by rw [HLU.out]; omega) wr.heap.size 1 (pf + i) hlx rfl (hB1.cell 0 rfl) ?_; intro a5 cap5 w5 hO6 hg6 hat6)
                    go_roundg ((u - pf + 1).toNat - (i + 1))
                    case measure => omega
                    case rel => exact ⟨i + 1, a5, cap5, by omega, rfl, by go_num, rfl, by rw [rng_succ]; exact hO6, (hC2.alloc _).grown hg6 (fun g hg => .inr (HU.out.blk hg).1)⟩
                  case pos =>
                    have hje : (u - pf + 1).toNat = i + 1 := by omega
                    have hne : (pf + (i : Int) == u) = true := by simp [hil]
                    have HJE := Lib.hid hje
                    have HIL := Lib.hid hil
                    clear hje hil
                    go_upto_region 27 with (at_builtin; refine wpList_appendU _ rfl _ _ rfl w2.heap.size a2 cap2 i (rng pf i) HLU.out rfl HU1.out (by simp; omega) (by rw [HLU.out]; omega) wr.heap.size 1 (pf + i) hlx rfl (hB1.cell 0 rfl) ?_; intro a5 cap5 w5 hO6 hg6 hat6)
                    have hU5 : OwnU w5 w2.heap.size a5 cap5 (rng pf (i + 1)) := by rw [rng_succ]; exact hO6
                    have hC5 : Chg [] w2 w5 := (hC2.alloc _).grown hg6 (fun g hg => .inr (HU.out.blk hg).1)
                    have hlU2 := rng_length pf (i + 1)
                    have HLU2 := Lib.hid hlU2
                    have hCw : Chg [] w w5 := hCx.trans hC5
                    have hsw := hCw.size
                    have hs2 := hCx.size
                    have hU51 := (hU5.chg ((Chg.refl [] w5).alloc (.cells #[.slice a5 (i + 1) cap5] 23)) (by simp)).mono (show w.heap.size ≤ w2.heap.size from hs2)
                    have hOO := HS.out.own.chg0 (((hCi.trans hC5)).alloc (.cells #[.slice a5 (i + 1) cap5] 23))
                    have hfull := hU51.some_of (by rw [hlU2]; omega)
                    have hap : ∀ s ∈ R, blkOf s.a ≠ blkOf a5 := fun s hs e => by
                      cases h1 : blkOf a5 with
                      | none => exact hfull h1
                      | some g =>
                        have h2 := (hU5.blk h1).1
                        have h3 := (HS.out.own.each s hs).lt (e.trans h1)
                        have h4 := hCi.size
                        omega
                    have hB2 := Blk.new w5 #[.slice a5 (i + 1) cap5] 23
                    have HJ2 : Hid ((w5.alloc (.cells #[.slice a5 (i + 1) cap5] 23)).cell? ⟨w5.heap.size, 0, none⟩ = some (.slice a5 (rng pf (i + 1)).length cap5)) := Lib.hid (by rw [hlU2]; exact hB2.cell 0 rfl)
                    have HU51 := Lib.hid hU51
                    have HOO := Lib.hid hOO
                    have HFULL := Lib.hid hfull
                    have HAP := Lib.hid hap
                    clear hU51 hOO hfull hap hU5 hlU2 hO6 hg6 hat6 hB2
                    go_wp2_with (at_builtin; refine wpList_appendUU _ rfl _ _ rfl w.heap.size a cap R.length R rfl rfl HOO.out (by simp; omega) (by omega) w5.heap.size 1 ⟨a5, cap5, rng pf (i + 1)⟩ HU51.out HFULL.out HAP.out rfl HJ2.out ?_; intro a7 cap7 w7 hO8 hg8 hat8)
                    go_roundg (L.length - (j + 1))
                    case measure => omega
                    case rel => exact ⟨j + 1, m * (u - pf + 1), a7, cap7, R ++ [⟨a5, cap5, rng pf (i + 1)⟩], by omega, rfl, by go_num, rfl, HST3.out, by rw [List.length_append]; rfl, ⟨by rw [HST2.out, HJE.out, List.map_append, HS.out.chs]; rfl, hO8, (hCw.alloc _).grown hg8 (fun g hg => .inr (HOO.out.lt hg).1), by simp; omega⟩⟩

end Go.Proofs.YteokjobkjmibfaaGreat
