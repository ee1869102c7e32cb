/- The reference's Play, walked. Condition: the events can be read. -/
import Derived.Test.YteokjobkjmibfaaGreatRg
namespace Go.Proofs.YteokjobkjmibfaaGreat
open Go.RowKit Go.Maps

set_option maxHeartbeats 8000000 in
set_option maxRecDepth 1000000 in
theorem rplay_any {w : World} {la : Option Addr} {L : List Ev} (hL : EvRow w la L) (hfit : ∀ e ∈ L, Fit w e) (hlen : L.length ≤ 400) (lc : Nat) {ca : Option Addr} {C : List Int} (hC : NumsAt w ca C) (cc : Nat) :
    Calls Tryz.prog 13 #[.slice la L.length lc, .slice ca C.length cc] w fun e w' => ∃ (a : Option Addr) (c : Nat), e = .returned (.tuple #[.bool (rplay L C).1, .slice a (rplay L C).2.length c]) ∧ OwnM w' a c (rplay L C).2 ∧ (rplay L C).2.length ≤ 100 * L.length ∧ Below w.heap.size w w' := by
  have HFIT := Lib.hid hfit
  have HLL := Lib.hid hL
  have HCC := Lib.hid hC
  clear hfit hL hC
  go_enter Tryz.func13, Tryz.ntmps13
  go_wp2_with fail
  go_loopg [6, 7, 8, 9, 10] L.length (fun q s6 s7 s8 s9 s10 wr => ∃ (i : Nat) (s : RSt) (ra : Option Addr) (rc : Nat) (ta : Option Addr) (tc : Nat) (ga : Option Addr) (gc : Nat), i ≤ L.length ∧ q = L.length - i ∧ s10 = .int .i64 i ∧ rplays L C i = s ∧
    s6 = .slice ta s.there.length tc ∧ s7 = .slice ga s.gone.length gc ∧ s8 = .slice ra s.a.length rc ∧ s9 = .bool s.ok ∧ RMem w wr s i ra rc ta tc ga gc)
  case atStart => exact ⟨0, ⟨[], true, [], []⟩, none, 0, none, 0, none, 0, Nat.zero_le _, rfl, rfl, rfl, rfl, rfl, rfl, rfl, RMem.start w⟩
  case round =>
    obtain ⟨i, s, ra, rc, ta, tc, ga, gc, hi, rfl, rfl, hs, rfl, rfl, rfl, rfl, hM⟩ := hrel
    have HS := Lib.hid hs
    have HM := Lib.hid hM
    clear hs hM
    by_cases hlt : i < L.length
    case neg =>
      obtain rfl : i = L.length := by omega
      have hfew := HM.out.few
      go_wp2_with fail
      go_loopg [9, 18, 19] s.there.length (fun q s9 s18 s19 wi => ∃ (j : Nat) (p : Bool × List Img) (ba : Option Addr) (bc : Nat), j ≤ s.there.length ∧ q = s.there.length - j ∧ s19 = .int .i64 j ∧ rend s j = p ∧ s9 = .bool p.1 ∧ s18 = .slice ba p.2.length bc ∧ OwnM wi ba bc p.2 ∧ p.2.length ≤ 100 * j ∧ Chg [] wr wi)
      case atStart => exact ⟨0, (s.ok, []), none, 0, Nat.zero_le _, rfl, rfl, rfl, rfl, rfl, OwnM.nil _, by simp, Chg.refl _ _⟩
      case round =>
        obtain ⟨j, ⟨pk, pb⟩, ba, bc, hj, rfl, rfl, hp, rfl, rfl, hO, hpl, hCi⟩ := hrel
        have HP := Lib.hid hp
        simp only at hO hpl
        clear hp
        by_cases hjl : j < s.there.length
        case neg =>
          obtain rfl : j = s.there.length := by omega
          have hr : rplay L C = (pk, s.a) := by unfold rplay; rw [HS.out, HP.out]
          have HR := Lib.hid hr
          have hI : OwnM wr ra rc s.a := HM.out.arr.chg hCi (by simp)
          have hCw := HM.out.chg.trans hCi
          clear hr
          go_wp2_with fail
          go_ret2
          exact ⟨ra, rc, by rw [HR.out]; rfl, by rw [HR.out]; exact hI, by rw [HR.out]; simp only; omega, hCw.below (Nat.le_refl _) (by simp)⟩
        case pos =>
          obtain ⟨b, o, rfl, hcs6, hok⟩ := ((HM.out.th.chg hCi (by simp)).row (by omega)).at_ hjl
          obtain ⟨d0, d1, d2, d3, d4, d5⟩ := hcs6 j hjl
          have hfx := HM.out.fit _ (getD_mem hjl)
          have hst := rend_step hjl
          generalize s.there.getD j default = x at d0 d1 d2 d3 d4 d5 hfx hst
          rw [HP.out] at hst
          simp only at hst
          have HST := Lib.hid hst
          have hl1 := hfx.lies.1.chgN (HM.out.chg.trans hCi) (by simp)
          have hl2 := hfx.lies.2.chgN (HM.out.chg.trans hCi) (by simp)
          have hfw := hfx.few
          clear hcs6 hok hfx hst d0 d1 d2 d3
          obtain ⟨xk, xn, xe, xl, xrs, xws, xra, xrc, xwa, xwc⟩ := x
          simp only at d4 d5 hl1 hl2 hfw
          have hpl2 : (rwrite pb xws).length ≤ 100 * (j + 1) := by have := rwrite_le pb xws; omega
          cases pk
          · have hW := rwrite_any hO hl2 (by omega) xwc
            go_wp2_with fail
            refine hW.mono ?_
            rintro e w6 ⟨a6, c6, rfl, hO6, hb6⟩
            go_wp2_with fail
            go_roundg (s.there.length - (j + 1))
            case measure => omega
            case rel => exact ⟨j + 1, (false, rwrite pb xws), a6, c6, by omega, rfl, by go_num, by rw [HST.out]; simp, rfl, rfl, hO6, hpl2, hCi.ofBelow hb6⟩
          · have hRd := rreads_any (hO.imgs (by omega)) hl1 bc xrc
            go_wp2_with fail
            refine hRd.mono ?_
            rintro e w5 ⟨rfl, hb5⟩
            have hC5 : Chg [] wr w5 := (Chg.refl [] wr).ofBelow hb5
            have d5' := (hC5.cell (lt_of_cell d5) (by simp)).trans d5
            have hW := rwrite_any (hO.chg hC5 (by simp)) (hl2.chgN hC5 (by simp)) (by omega) xwc
            go_wp2_with fail
            refine hW.mono ?_
            rintro e w6 ⟨a6, c6, rfl, hO6, hb6⟩
            go_wp2_with fail
            go_roundg (s.there.length - (j + 1))
            case measure => omega
            case rel => exact ⟨j + 1, (rreads pb xrs, rwrite pb xws), a6, c6, by omega, rfl, by go_num, by rw [HST.out]; simp, rfl, rfl, hO6, hpl2, hCi.trans (hC5.ofBelow hb6)⟩
    case pos =>
      obtain ⟨b, o, rfl, hcs6, hok⟩ := (HLL.out.chgN HM.out.chg (by simp)).at_ hlt
      obtain ⟨d0, d1, d2, d3, d4, d5⟩ := hcs6 i hlt
      have hfx := HFIT.out _ (getD_mem hlt)
      obtain ⟨x, hx⟩ : ∃ x, L.getD i default = x := ⟨_, rfl⟩
      rw [hx] at d0 d1 d2 d3 d4 d5 hfx
      have hst : rplays L C (i + 1) = rstep C s x := by rw [rplays_step hlt, HS.out, hx]
      have HST := Lib.hid hst
      have HFX := Lib.hid hfx
      clear hx hcs6 hok hfx hst
      obtain ⟨xk, xn, xe, xl, xrs, xws, xra, xrc, xwa, xwc⟩ := x
      simp only at d0 d1 d2 d3 d4 d5
      by_cases q1 : xk = 1
      case pos =>
        subst q1
        go_upto_block 3 with (fail)
        have hBx : Blk (wr.alloc (.cells #[.int .i64 1, .int .i64 xn, .int .u64 xe, .int .u64 xl, .slice xra xrs.length xrc, .slice xwa xws.length xwc] 71)) wr.heap.size #[.int .i64 1, .int .i64 xn, .int .u64 xe, .int .u64 xl, .slice xra xrs.length xrc, .slice xwa xws.length xwc] 71 := Blk.new _ _ _
        have hCx : Chg [] wr (wr.alloc (.cells #[.int .i64 1, .int .i64 xn, .int .u64 xe, .int .u64 xl, .slice xra xrs.length xrc, .slice xwa xws.length xwc] 71)) := (Chg.refl _ _).alloc _
        obtain ⟨xb, hxb⟩ : ∃ xb, wr.heap.size = xb := ⟨_, rfl⟩
        rw [hxb] at hBx
        simp only [hxb]
        clear d0 d1 d2 d3 d4 d5
        generalize wr.alloc (.cells #[.int .i64 1, .int .i64 xn, .int .u64 xe, .int .u64 xl, .slice xra xrs.length xrc, .slice xwa xws.length xwc] 71) = W3 at hBx hCx ⊢
        have hsx : wr.heap.size ≤ W3.heap.size := hCx.size
        go_wp2_with fail
        go_loopg [12, 13] s.gone.length (fun q s12 s13 wi => ∃ (j : Nat) (lt : Bool), j ≤ s.gone.length ∧ q = s.gone.length - j ∧ s13 = .int .i64 j ∧ s12 = .bool lt ∧ rlate (s.gone.take j) ⟨1, xn, xe, xl, xrs, xws, xra, xrc, xwa, xwc⟩ = lt ∧ Chg [] W3 wi)
        case atStart => exact ⟨0, false, Nat.zero_le _, rfl, rfl, rfl, rfl, Chg.refl _ _⟩
        case round =>
          obtain ⟨j, lt, hj, rfl, rfl, rfl, hlt2, hCj⟩ := hrel
          have HLT := Lib.hid hlt2
          clear hlt2
          have hBj := hBx.chg hCj (by simp)
          have b1 := hBj.cell 1 rfl
          have b2 := hBj.cell 2 rfl
          have hM3 := (HM.out.chg0 hCx).chg0 hCj
          have HM3 := Lib.hid hM3
          have hfew := hM3.few
          clear hM3
          by_cases hjl : j < s.gone.length
          case pos =>
            obtain ⟨bg, og, rfl, hcg, _⟩ := (HM3.out.gn.row (by omega)).at_ hjl
            obtain ⟨_, e1, e2, _, _, _⟩ := hcg j hjl
            have hst : rlate (s.gone.take (j + 1)) ⟨1, xn, xe, xl, xrs, xws, xra, xrc, xwa, xwc⟩ = (lt || same (s.gone.getD j default) ⟨1, xn, xe, xl, xrs, xws, xra, xrc, xwa, xwc⟩) := by
              unfold rlate; rw [take_step hjl, List.any_append, ← HLT.out]; simp [rlate]
            generalize s.gone.getD j default = y at e1 e2 hst
            obtain ⟨yk, yn, ye, yl, yrs, yws, yra, yrc, ywa, ywc⟩ := y
            simp only at e1 e2
            have g1 : (0 : Int) ≤ (j : Int) := by omega
            have g2 : (j : Int) < (s.gone.length : Int) := by omega
            clear hcg
            cases lt
            case true =>
              have HST2 := Lib.hid hst
              clear hst
              go_wp2_with fail
              go_quiet (fail)
              go_wp2_with fail
              go_roundg (s.gone.length - (j + 1))
              case measure => omega
              case rel => exact ⟨j + 1, true, by omega, rfl, by go_num, rfl, by rw [HST2.out]; rfl, hCj.drewN _⟩
            case false =>
              by_cases t1 : yn = xn
              case neg =>
                have hs0 : same ⟨yk, yn, ye, yl, yrs, yws, yra, yrc, ywa, ywc⟩ ⟨1, xn, xe, xl, xrs, xws, xra, xrc, xwa, xwc⟩ = false := by unfold same; simp [t1]
                rw [hs0] at hst
                have HST2 := Lib.hid hst
                have hq : (yn == xn) = false := by simp [t1]
                clear hst hs0
                go_wp2_with fail
                go_quiet (fail)
                go_wp2_with fail
                go_roundg (s.gone.length - (j + 1))
                case measure => omega
                case rel => exact ⟨j + 1, false, by omega, rfl, by go_num, rfl, by rw [HST2.out]; rfl, hCj.drewN _⟩
              case pos =>
                have hs0 : same ⟨yk, yn, ye, yl, yrs, yws, yra, yrc, ywa, ywc⟩ ⟨1, xn, xe, xl, xrs, xws, xra, xrc, xwa, xwc⟩ = (ye == xe) := by unfold same; simp [t1]
                rw [hs0] at hst
                have HST2 := Lib.hid hst
                clear hst hs0
                obtain rfl := t1.symm
                obtain ⟨qe, hqe⟩ : ∃ qe, (ye == xe) = qe := ⟨_, rfl⟩
                have HQE := Lib.hid hqe
                cases qe
                all_goals
                  go_wp2_with fail
                  go_quiet (fail)
                  go_wp2_with fail
                  go_roundg (s.gone.length - (j + 1))
                  case measure => omega
                  case rel => exact ⟨j + 1, _, by omega, rfl, by go_num, rfl, by rw [HST2.out, HQE.out]; rfl, hCj.drewN _⟩
          case neg =>
            obtain rfl : j = s.gone.length := by omega
            have hla : rlate s.gone ⟨1, xn, xe, xl, xrs, xws, xra, xrc, xwa, xwc⟩ = lt := by rw [← HLT.out, List.take_length]
            have HLA := Lib.hid hla
            clear hla
            cases lt
            case true =>
              have hst2 : rplays L C (i + 1) = s := by rw [HST.out]; unfold rstep; rw [if_pos rfl, HLA.out]; rfl
              have HST2 := Lib.hid hst2
              clear hst2
              go_wp2_with fail
              go_roundg (L.length - (i + 1))
              case measure => omega
              case rel => exact ⟨i + 1, s, ra, rc, ta, tc, ga, gc, by omega, rfl, by go_num, HST2.out, rfl, rfl, rfl, rfl, HM3.out.mono (by omega)⟩
            case false =>
              obtain ⟨so, hso⟩ : ∃ so, s.ok = so := ⟨_, rfl⟩
              simp only [hso]
              have hst2 : rplays L C (i + 1) = { a := rwrite s.a xws, ok := so && rreads s.a xrs, there := s.there ++ [⟨1, xn, xe, xl, xrs, xws, xra, xrc, xwa, xwc⟩], gone := s.gone } := by
                rw [HST.out]; unfold rstep; rw [if_pos rfl, HLA.out, hso]; rfl
              have HST2 := Lib.hid hst2
              have hl1 := HFX.out.lies.1.chgN HM3.out.chg (by simp)
              have hl2 := HFX.out.lies.2.chgN HM3.out.chg (by simp)
              have hfw := HFX.out.few
              have hwl := rwrite_le s.a xws
              simp only at hl1 hl2 hfw
              have b0 := hBj.cell 0 rfl
              have b3 := hBj.cell 3 rfl
              have b4 := hBj.cell 4 rfl
              have b5 := hBj.cell 5 rfl
              clear hst2 hso
              have hRd := rreads_any (HM3.out.arr.imgs (by omega)) hl1 rc xrc
              have HRD := Lib.hid hRd
              clear hRd
              cases so
              case false =>
                have hW := rwrite_any HM3.out.arr hl2 (by omega) xwc
                go_wp2_with fail
                refine hW.mono ?_
                rintro e w6 ⟨a6, c6, rfl, hO6, hb6⟩
                have hC6 : Chg [] wr w6 := (Chg.refl [] wr).ofBelow hb6
                have hB6 := hBj.chg hC6 (by simp)
                have m0 := hB6.cell 0 rfl
                have m1 := hB6.cell 1 rfl
                have m2 := hB6.cell 2 rfl
                have m3 := hB6.cell 3 rfl
                have m4 := hB6.cell 4 rfl
                have m5 := hB6.cell 5 rfl
                have HO6 := Lib.hid hO6
                clear hO6 b0 b1 b2 b3 b4 b5
                have hA6 := Chg.alloc (Chg.refl [] w6) (.cells #[.int .i64 1, .int .i64 xn, .int .u64 xe, .int .u64 xl, .slice xra xrs.length xrc, .slice xwa xws.length xwc] 71)
                have hTH := HM3.out.th.chg (hC6.trans hA6) (by simp)
                have HTH := Lib.hid hTH
                have hsix := six_at (e := ⟨1, xn, xe, xl, xrs, xws, xra, xrc, xwa, xwc⟩) (Blk.new w6 #[.int .i64 1, .int .i64 xn, .int .u64 xe, .int .u64 xl, .slice xra xrs.length xrc, .slice xwa xws.length xwc] 71) rfl
                have HSIX := Lib.hid hsix
                have HA6 := Lib.hid (hC6.trans hA6)
                clear hTH hsix hA6 HRD
                go_wp2_with (at_builtin; refine wpList_appendRn _ rfl _ _ rfl ta tc s.there.length s.there rfl rfl HTH.out (by omega) w6.heap.size 1 ⟨1, xn, xe, xl, xrs, xws, xra, xrc, xwa, xwc⟩ HFX.out.ok rfl HSIX.out ?_; intro a7 c7 w7 hO7 hg7 hat7)
                go_roundg (L.length - (i + 1))
                case measure => omega
                case rel => exact ⟨i + 1, _, a6, c6, a7, c7, ga, gc, by omega, rfl, by go_num, HST2.out, by simp, rfl, rfl, by simp, HM3.out.commit HFX.out (HO6.out.chg ((Chg.refl [] w6).alloc _) (by simp)) HA6.out hO7 hg7 hat7 _⟩
              case true =>
                go_wp2_with fail
                refine HRD.out.mono ?_
                rintro e w5 ⟨rfl, hb5⟩
                have hC5 : Chg [] wr w5 := (Chg.refl [] wr).ofBelow hb5
                have hB5 := hBj.chg hC5 (by simp)
                have n5 := hB5.cell 5 rfl
                have hW := rwrite_any (HM3.out.arr.chg hC5 (by simp)) (hl2.chgN hC5 (by simp)) (by omega) xwc
                clear b0 b1 b2 b3 b4 b5
                go_wp2_with fail
                refine hW.mono ?_
                rintro e w6 ⟨a6, c6, rfl, hO6, hb6⟩
                have hC6 : Chg [] wr w6 := hC5.ofBelow hb6
                have hB6 := hBj.chg hC6 (by simp)
                have m0 := hB6.cell 0 rfl
                have m1 := hB6.cell 1 rfl
                have m2 := hB6.cell 2 rfl
                have m3 := hB6.cell 3 rfl
                have m4 := hB6.cell 4 rfl
                have m5 := hB6.cell 5 rfl
                have HO6 := Lib.hid hO6
                clear hO6 n5
                have hA6 := Chg.alloc (Chg.refl [] w6) (.cells #[.int .i64 1, .int .i64 xn, .int .u64 xe, .int .u64 xl, .slice xra xrs.length xrc, .slice xwa xws.length xwc] 71)
                have hTH := HM3.out.th.chg (hC6.trans hA6) (by simp)
                have HTH := Lib.hid hTH
                have hsix := six_at (e := ⟨1, xn, xe, xl, xrs, xws, xra, xrc, xwa, xwc⟩) (Blk.new w6 #[.int .i64 1, .int .i64 xn, .int .u64 xe, .int .u64 xl, .slice xra xrs.length xrc, .slice xwa xws.length xwc] 71) rfl
                have HSIX := Lib.hid hsix
                have HA6 := Lib.hid (hC6.trans hA6)
                clear hTH hsix hA6 HRD
                go_wp2_with (at_builtin; refine wpList_appendRn _ rfl _ _ rfl ta tc s.there.length s.there rfl rfl HTH.out (by omega) w6.heap.size 1 ⟨1, xn, xe, xl, xrs, xws, xra, xrc, xwa, xwc⟩ HFX.out.ok rfl HSIX.out ?_; intro a7 c7 w7 hO7 hg7 hat7)
                go_roundg (L.length - (i + 1))
                case measure => omega
                case rel => exact ⟨i + 1, _, a6, c6, a7, c7, ga, gc, by omega, rfl, by go_num, HST2.out, by simp, rfl, rfl, by simp, HM3.out.commit HFX.out (HO6.out.chg ((Chg.refl [] w6).alloc _) (by simp)) HA6.out hO7 hg7 hat7 _⟩
      case neg =>
        have hCx : Chg [] wr (wr.alloc (.cells #[.int .i64 xk, .int .i64 xn, .int .u64 xe, .int .u64 xl, .slice xra xrs.length xrc, .slice xwa xws.length xwc] 71)) := (Chg.refl _ _).alloc _
        by_cases q4 : xk = 4
        case pos =>
          subst q4
          obtain ⟨so, hso⟩ : ∃ so, s.ok = so := ⟨_, rfl⟩
          simp only [hso]
          have hst2 : rplays L C (i + 1) = { s with ok := so && rreads s.a xrs } := by
            rw [HST.out]; unfold rstep; rw [if_neg (by simp), if_neg (by simp), if_pos rfl, hso]
          have HST2 := Lib.hid hst2
          have hfew := HM.out.few
          have hl1 := HFX.out.lies.1.chgN (HM.out.chg.trans hCx) (by simp)
          have hRd := rreads_any ((HM.out.arr.chg hCx (by simp)).imgs (by omega)) hl1 rc xrc
          have HCX := Lib.hid hCx
          clear hst2 hso hCx
          cases so
          case false =>
            clear hRd
            go_wp2_with fail
            go_roundg (L.length - (i + 1))
            case measure => omega
            case rel => exact ⟨i + 1, _, ra, rc, ta, tc, ga, gc, by omega, rfl, by go_num, HST2.out, rfl, rfl, rfl, by simp, ((HM.out.chg0 HCX.out).mono (by omega)).okTo _⟩
          case true =>
            go_wp2_with fail
            refine hRd.mono ?_
            rintro e w5 ⟨rfl, hb5⟩
            go_wp2_with fail
            go_roundg (L.length - (i + 1))
            case measure => omega
            case rel => exact ⟨i + 1, _, ra, rc, ta, tc, ga, gc, by omega, rfl, by go_num, HST2.out, rfl, rfl, rfl, by simp, ((HM.out.chg0 (HCX.out.ofBelow hb5)).mono (by omega)).okTo _⟩
        case neg =>
        by_cases q3 : xk = 3
        case neg =>
          have hst2 : rplays L C (i + 1) = s := by
            rw [HST.out]; unfold rstep; rw [if_neg q1, if_neg q3, if_neg q4]
          have HST2 := Lib.hid hst2
          have HCX := Lib.hid hCx
          clear hst2 hCx
          go_wp2_with fail
          go_roundg (L.length - (i + 1))
          case measure => omega
          case rel => exact ⟨i + 1, s, ra, rc, ta, tc, ga, gc, by omega, rfl, by go_num, HST2.out, rfl, rfl, rfl, rfl, (HM.out.chg0 HCX.out).mono (by omega)⟩
        case pos =>
          subst q3
          clear q1 q4
          have hfew := HM.out.few
          have hBx : Blk (wr.alloc (.cells #[.int .i64 3, .int .i64 xn, .int .u64 xe, .int .u64 xl, .slice xra xrs.length xrc, .slice xwa xws.length xwc] 71)) wr.heap.size #[.int .i64 3, .int .i64 xn, .int .u64 xe, .int .u64 xl, .slice xra xrs.length xrc, .slice xwa xws.length xwc] 71 := Blk.new _ _ _
          go_upto_region 22 with (fail)
          obtain ⟨xb, hxb⟩ : ∃ xb, wr.heap.size = xb := ⟨_, rfl⟩
          rw [hxb] at hBx
          simp only [hxb]
          clear d0 d1 d2 d3 d4 d5
          generalize wr.alloc (.cells #[.int .i64 3, .int .i64 xn, .int .u64 xe, .int .u64 xl, .slice xra xrs.length xrc, .slice xwa xws.length xwc] 71) = W3 at hBx hCx ⊢
          have hM3 := HM.out.chg0 hCx
          have HM3 := Lib.hid hM3
          go_upto_if 83 with (fail)
          go_cut [14] (fun s14 wx => s14 = .int .u64 (rcut C s.gone.length) ∧ W3 = wx)
          case first =>
            have hN := HCC.out.chgN hM3.chg (by simp)
            clear hM3
            by_cases hgc : s.gone.length < C.length
            case pos =>
              have hrc : rcut C s.gone.length = C.getD s.gone.length 0 := by unfold rcut; rw [if_pos hgc]
              obtain ⟨_, _, h0 | ⟨cb, co, rfl, hcc⟩⟩ := hN
              · rw [h0] at hgc; simp at hgc
              have hce := hcc _ hgc
              obtain ⟨cv, hcv⟩ : ∃ cv, C.getD s.gone.length 0 = cv := ⟨_, rfl⟩
              rw [hcv] at hce hrc
              have HRC := Lib.hid hrc
              clear hcc hrc hcv
              go_wp2_with fail
              go_meet
              exact ⟨by rw [HRC.out], rfl⟩
            case neg =>
              have hrc : rcut C s.gone.length = 0 := by unfold rcut; rw [if_neg hgc]
              have HRC := Lib.hid hrc
              clear hrc hN
              go_wp2_with fail
              go_meet
              exact ⟨by rw [HRC.out], rfl⟩
          case rest =>
            obtain ⟨rfl, rfl⟩ := hcut
            clear hM3
            have b0 := hBx.cell 0 rfl
            have b1 := hBx.cell 1 rfl
            have b2 := hBx.cell 2 rfl
            have b3 := hBx.cell 3 rfl
            have b4 := hBx.cell 4 rfl
            have b5 := hBx.cell 5 rfl
            have hTH := HM3.out.gn.chg ((Chg.refl [] W3).alloc (.cells #[.int .i64 3, .int .i64 xn, .int .u64 xe, .int .u64 xl, .slice xra xrs.length xrc, .slice xwa xws.length xwc] 71)) (by simp)
            have HTH := Lib.hid hTH
            have hsix := six_at (e := ⟨3, xn, xe, xl, xrs, xws, xra, xrc, xwa, xwc⟩) (Blk.new W3 #[.int .i64 3, .int .i64 xn, .int .u64 xe, .int .u64 xl, .slice xra xrs.length xrc, .slice xwa xws.length xwc] 71) rfl
            have HSIX := Lib.hid hsix
            clear hTH hsix
            go_upto_block 5 with (at_builtin; refine wpList_appendRn _ rfl _ _ rfl ga gc s.gone.length s.gone rfl rfl HTH.out (by omega) W3.heap.size 1 ⟨3, xn, xe, xl, xrs, xws, xra, xrc, xwa, xwc⟩ HFX.out.ok rfl HSIX.out ?_; intro a7 c7 w7 hO7 hg7 hat7)
            have hS := (HM3.out.chg0 ((Chg.refl [] W3).alloc (.cells #[.int .i64 3, .int .i64 xn, .int .u64 xe, .int .u64 xl, .slice xra xrs.length xrc, .slice xwa xws.length xwc] 71))).gone hO7 hg7 hat7
            have hB7 := (hBx.chg ((Chg.refl [] W3).alloc (.cells #[.int .i64 3, .int .i64 xn, .int .u64 xe, .int .u64 xl, .slice xra xrs.length xrc, .slice xwa xws.length xwc] 71)) (by simp))
            have hB8 := hB7.grown hg7 (fun e => by have := HM.out.gn.lt e.symm; omega)
            have hC7 := hS.chg
            clear hB7 hBx b0 b1 b2 b3 b4 b5 hO7 hg7 hat7
            go_wp2_with fail
            go_loopg [8, 15, 16] s.there.length (fun q s8 s15 s16 wi => ∃ (k : Nat) (p : List Ev × List Img) (sa : Option Addr) (sc : Nat) (ra2 : Option Addr) (rc2 : Nat), k ≤ s.there.length ∧ q = s.there.length - k ∧ s16 = .int .i64 k ∧
              rstill s.there ⟨3, xn, xe, xl, xrs, xws, xra, xrc, xwa, xwc⟩ (rcut C s.gone.length) k = p ∧ s15 = .slice sa p.1.length sc ∧ s8 = .slice ra2 p.2.length rc2 ∧ SMem w wi s.there (s.gone ++ [⟨3, xn, xe, xl, xrs, xws, xra, xrc, xwa, xwc⟩]) p.1 ta tc a7 c7 sa sc ∧ OwnM wi ra2 rc2 p.2 ∧ (p.1.length ≤ k ∧ p.2.length ≤ 100 * p.1.length) ∧ (∀ g, blkOf sa = some g → w7.heap.size ≤ g) ∧ Chg [] w7 wi)
            case atStart => exact ⟨0, ([], []), none, 0, none, 0, Nat.zero_le _, rfl, rfl, rfl, rfl, rfl, hS, OwnM.nil _, by simp, by simp [blkOf], Chg.refl _ _⟩
            case round =>
              obtain ⟨k, ⟨p1, p2⟩, sa, sc, ra2, rc2, hk, rfl, rfl, hp, rfl, rfl, hS2, hO2, hlen2, hsa7, hC2⟩ := hrel
              have HSA := Lib.hid hsa7
              clear hsa7
              have HP := Lib.hid hp
              simp only at hS2 hO2 hlen2
              have HS2 := Lib.hid hS2
              have HO2 := Lib.hid hO2
              clear hp hS2 hO2
              by_cases hkl : k < s.there.length
              case neg =>
                obtain rfl : k = s.there.length := by omega
                have hst2 : rplays L C (i + 1) = { a := p2, ok := s.ok, there := p1, gone := s.gone ++ [⟨3, xn, xe, xl, xrs, xws, xra, xrc, xwa, xwc⟩] } := by
                  rw [HST.out]; unfold rstep; rw [if_neg (by simp), if_pos rfl, HP.out]
                have HST2 := Lib.hid hst2
                have hmem := rstill_mem (x := ⟨3, xn, xe, xl, xrs, xws, xra, xrc, xwa, xwc⟩) (cut := rcut C s.gone.length) s.there.length (Nat.le_refl _)
                rw [HP.out] at hmem
                have HMEM := Lib.hid hmem
                clear hst2 hmem
                go_wp2_with fail
                go_roundg (L.length - (i + 1))
                case measure => omega
                case rel => exact ⟨i + 1, _, ra2, rc2, sa, sc, a7, c7, by omega, rfl, by go_num, HST2.out, rfl, by simp, rfl, rfl, ⟨HO2.out, HS2.out.st, HS2.out.gn, fun g hg => (HS2.out.nt g hg).2.1, fun g hg => (HS2.out.nt g hg).2.2, HS2.out.ng, fun e he => HM.out.fit e (HMEM.out e he), by simp; omega, HS2.out.chg⟩⟩
              case pos =>
                have hrowT := HS2.out.th.row (by omega)
                obtain ⟨tb, tof, rfl, hct, _⟩ := hrowT.at_ hkl
                obtain ⟨e0, e1, e2, e3, e4, e5⟩ := hct k hkl
                have hfy := HM.out.fit _ (getD_mem hkl)
                obtain ⟨y, hy⟩ : ∃ y, s.there.getD k default = y := ⟨_, rfl⟩
                rw [hy] at e0 e1 e2 e3 e4 e5 hfy
                have HY := Lib.hid hy
                have HFY := Lib.hid hfy
                have HROW := Lib.hid hrowT
                have hB9 := hB8.chg hC2 (by simp)
                clear hct hy hfy hrowT
                obtain ⟨yk, yn, ye, yl, yrs, yws, yra, yrc, ywa, ywc⟩ := y
                simp only at e0 e1 e2 e3 e4 e5
                have hCy : Chg [] wr (wr.alloc (.cells #[.int .i64 yk, .int .i64 yn, .int .u64 ye, .int .u64 yl, .slice yra yrs.length yrc, .slice ywa yws.length ywc] 71)) := (Chg.refl _ _).alloc _
                have hBy : Blk (wr.alloc (.cells #[.int .i64 yk, .int .i64 yn, .int .u64 ye, .int .u64 yl, .slice yra yrs.length yrc, .slice ywa yws.length ywc] 71)) wr.heap.size #[.int .i64 yk, .int .i64 yn, .int .u64 ye, .int .u64 yl, .slice yra yrs.length yrc, .slice ywa yws.length ywc] 71 := Blk.new _ _ _
                have hB10 := hB9.chg hCy (by simp)
                go_upto_region 31 with (fail)
                obtain ⟨yb, hyb⟩ : ∃ yb, wr.heap.size = yb := ⟨_, rfl⟩
                rw [hyb] at hBy
                simp only [hyb]
                clear e0 e1 e2 e3 e4 e5 hB9 hB8
                generalize wr.alloc (.cells #[.int .i64 yk, .int .i64 yn, .int .u64 ye, .int .u64 yl, .slice yra yrs.length yrc, .slice ywa yws.length ywc] 71) = W4 at hBy hCy hB10 ⊢
                go_cut [121] (fun s121 wi => ∃ q, s121 = .bool q ∧ q = rvan s.there ⟨3, xn, xe, xl, xrs, xws, xra, xrc, xwa, xwc⟩ (rcut C s.gone.length) k ∧ Chg [] W4 wi)
                case first =>
                  have m1 := hB10.cell 1 rfl
                  have m2 := hB10.cell 2 rfl
                  have y1 := hBy.cell 1 rfl
                  have y2 := hBy.cell 2 rfl
                  have hCn := rcounts_any (HROW.out.chgN hCy (by simp)) hkl tc
                  by_cases t1 : yn = xn
                  case neg =>
                    have hv : rvan s.there ⟨3, xn, xe, xl, xrs, xws, xra, xrc, xwa, xwc⟩ (rcut C s.gone.length) k = false := by unfold rvan same; rw [HY.out]; simp [t1]
                    have HV := Lib.hid hv
                    have hq : (yn == xn) = false := by simp [t1]
                    clear hv hCn
                    go_wp2_with fail
                    go_meet
                    exact ⟨_, rfl, by rw [HV.out], Chg.refl _ _⟩
                  case pos =>
                    by_cases t2 : ye = xe
                    case neg =>
                      have hv : rvan s.there ⟨3, xn, xe, xl, xrs, xws, xra, xrc, xwa, xwc⟩ (rcut C s.gone.length) k = false := by unfold rvan same; rw [HY.out]; simp [t2]
                      have HV := Lib.hid hv
                      have hq : (ye == xe) = false := by simp [t2]
                      clear hv hCn
                      obtain rfl := t1.symm
                      go_wp2_with fail
                      go_meet
                      exact ⟨_, rfl, by rw [HV.out], Chg.refl _ _⟩
                    case pos =>
                      have hv : rvan s.there ⟨3, xn, xe, xl, xrs, xws, xra, xrc, xwa, xwc⟩ (rcut C s.gone.length) k = decide (rcut C s.gone.length < rcounts s.there k) := by unfold rvan same; rw [HY.out]; simp [t1, t2]
                      have HV := Lib.hid hv
                      clear hv
                      obtain rfl := t1.symm
                      obtain rfl := t2.symm
                      go_wp2_with fail
                      refine hCn.mono ?_
                      rintro e w8 ⟨rfl, hb8⟩
                      go_wp2_with fail
                      go_meet
                      exact ⟨_, rfl, by rw [HV.out], (Chg.refl _ _).ofBelow hb8⟩
                case rest =>
                  obtain ⟨q, rfl, hq, hC31⟩ := hcut
                  cases q
                  case true =>
                    have hp2 : rstill s.there ⟨3, xn, xe, xl, xrs, xws, xra, xrc, xwa, xwc⟩ (rcut C s.gone.length) (k + 1) = (p1, p2) := by unfold rstill; rw [if_pos hq.symm, HP.out]
                    have HP2 := Lib.hid hp2
                    clear hp2 hq
                    go_wp2_with fail
                    go_roundg (s.there.length - (k + 1))
                    case measure => omega
                    case rel => exact ⟨k + 1, (p1, p2), sa, sc, ra2, rc2, by omega, rfl, by go_num, HP2.out, rfl, rfl, HS2.out.chg0 (hCy.trans hC31), HO2.out.chg (hCy.trans hC31) (by simp), by simp only; omega, HSA.out, hC2.trans (hCy.trans hC31)⟩
                  case false =>
                    have hp2 : rstill s.there ⟨3, xn, xe, xl, xrs, xws, xra, xrc, xwa, xwc⟩ (rcut C s.gone.length) (k + 1) = (p1 ++ [⟨yk, yn, ye, yl, yrs, yws, yra, yrc, ywa, ywc⟩], rwrite p2 yws) := by unfold rstill; rw [← hq, HP.out, HY.out]; rfl
                    have HP2 := Lib.hid hp2
                    have hByc := hBy.chg hC31 (by simp)
                    have y0 := hByc.cell 0 rfl
                    have y1 := hByc.cell 1 rfl
                    have y2 := hByc.cell 2 rfl
                    have y3 := hByc.cell 3 rfl
                    have y4 := hByc.cell 4 rfl
                    have y5 := hByc.cell 5 rfl
                    have hS3 := (HS2.out.chg0 (hCy.trans hC31)).chg0 ((Chg.refl [] wc).alloc (.cells #[.int .i64 yk, .int .i64 yn, .int .u64 ye, .int .u64 yl, .slice yra yrs.length yrc, .slice ywa yws.length ywc] 71))
                    have HS3 := Lib.hid hS3
                    have hsix := six_at (e := ⟨yk, yn, ye, yl, yrs, yws, yra, yrc, ywa, ywc⟩) (Blk.new wc #[.int .i64 yk, .int .i64 yn, .int .u64 ye, .int .u64 yl, .slice yra yrs.length yrc, .slice ywa yws.length ywc] 71) rfl
                    have HSIX := Lib.hid hsix
                    have hfw := HFY.out.few
                    have hwl := rwrite_le p2 yws
                    simp only at hfw
                    clear hp2 hq hS3 hsix
                    go_upto_region 33 with (at_builtin; refine wpList_appendRn _ rfl _ _ rfl sa sc p1.length p1 rfl rfl HS3.out.st (by omega) wc.heap.size 1 ⟨yk, yn, ye, yl, yrs, yws, yra, yrc, ywa, ywc⟩ HFY.out.ok rfl HSIX.out ?_; intro a9 c9 w9 hO9 hg9 hat9)
                    have hS9 := HS3.out.more hO9 hg9 hat9
                    have hcg : Chg (blkOf sa).toList wr w9 := ((((hCy.trans hC31).alloc (.cells #[.int .i64 yk, .int .i64 yn, .int .u64 ye, .int .u64 yl, .slice yra yrs.length yrc, .slice ywa yws.length ywc] 71))).mono (fun k hk => by simp at hk)).grown hg9 (fun k hk => .inl (by simp [hk]))
                    have hcw : Chg (blkOf sa).toList wc w9 := ((Chg.refl _ wc).alloc (.cells #[.int .i64 yk, .int .i64 yn, .int .u64 ye, .int .u64 yl, .slice yra yrs.length yrc, .slice ywa yws.length ywc] 71)).grown hg9 (fun k hk => .inl (by simp [hk]))
                    have hC9 : Chg [] w7 w9 := (hC2.trans ((hCy.trans hC31).alloc (.cells #[.int .i64 yk, .int .i64 yn, .int .u64 ye, .int .u64 yl, .slice yra yrs.length yrc, .slice ywa yws.length ywc] 71))).grown hg9 (fun g hg => .inr (HSA.out g hg))
                    have hO9m : OwnM w9 ra2 rc2 p2 := HO2.out.chg hcg (fun g hg hm => by
                      obtain ⟨c1, hb1⟩ := HO2.out.blk hg
                      obtain ⟨c2, hb2⟩ := HS2.out.st.blk (g := g) (by simpa using hm)
                      exact blk_ne hb1 hb2 (by decide) rfl)
                    have z5 := (hByc.chg hcw (fun hm => by have := HS2.out.st.lt (g := yb) (by simpa using hm); omega)).cell 5 rfl
                    have hW := rwrite_any hO9m (HFY.out.lies.2.chgN hS9.chg (by simp)) (by simp only; omega) ywc
                    have hsa9 : ∀ g, blkOf a9 = some g → w7.heap.size ≤ g := fun g hg => by
                      rcases hat9 with e | e
                      · rw [e] at hg; exact HSA.out g hg
                      · rw [e] at hg; cases hg; exact (hC2.trans ((hCy.trans hC31).alloc (.cells #[.int .i64 yk, .int .i64 yn, .int .u64 ye, .int .u64 yl, .slice yra yrs.length yrc, .slice ywa yws.length ywc] 71))).size
                    clear y0 y1 y2 y3 y4 y5
                    go_wp2_with fail
                    refine hW.mono ?_
                    rintro e w10 ⟨a10, c10, rfl, hO10, hb10⟩
                    go_wp2_with fail
                    go_roundg (s.there.length - (k + 1))
                    case measure => omega
                    case rel => exact ⟨k + 1, _, a9, c9, a10, c10, by omega, rfl, by go_num, HP2.out, by simp, rfl, hS9.chg0 ((Chg.refl [] w9).ofBelow hb10), hO10, by simp; omega, hsa9, hC9.ofBelow hb10⟩

end Go.Proofs.YteokjobkjmibfaaGreat
