/- The walk of Cuts of the package hist. Condition: the events can be read, at most 400 of them. -/
import Derived.Test.YteokjobkjmibfaaGreatH
namespace Go.Proofs.YteokjobkjmibfaaGreat
open Go.RowKit Go.Maps

def CutsPost (L : List Ev) (w : World) (e : Ending) (w' : World) : Prop :=
  ∃ (a : Option Addr) (cap : Nat) (R : List Row1), e = .returned (.tuple #[.slice a R.length cap, .int .i64 (cutsErr L)]) ∧ (cutsErr L ≠ 0 → R = []) ∧ (cutsErr L = 0 → R.map Row1.C = chs L L.length) ∧ OwnUU w' w.heap.size a cap R ∧ Below w.heap.size w w'

theorem CutsPost.fail {L : List Ev} {w w' : World} {c : Int} (hc : cutsErr L = c) (h0 : c ≠ 0) (hb : Below w.heap.size w w') : CutsPost L w (.returned (.tuple #[.slice none 0 0, .int .i64 c])) w' :=
  ⟨none, 0, [], by rw [hc]; rfl, fun _ => rfl, fun h => absurd (hc.symm.trans h) h0, OwnUU.nil _ _, hb⟩

/-- where the second loop of Cuts stands -/
structure Sec (L : List Ev) (w wr : World) (k : Nat) (a : Option Addr) (cap : Nat) (R : List Row1) : Prop where
  chs : R.map Row1.C = chs L k
  good : ∀ i, i < k → (L.getD i default).bad = false
  own : OwnUU wr w.heap.size a cap R
  chg : Chg [] w wr
  few : R.length ≤ k

theorem Sec.start (L : List Ev) {w wr : World} (h : Chg [] w wr) : Sec L w wr 0 none 0 [] := ⟨rfl, fun i hi => by omega, OwnUU.nil _ _, h, Nat.le_refl _⟩
theorem Sec.skip {L : List Ev} {w wr wn : World} {k : Nat} {a : Option Addr} {cap : Nat} {R : List Row1} (h : Sec L w wr k a cap R) (hc : Chg [] wr wn) (hb : (L.getD k default).bad = false) (h3 : (L.getD k default).kind ≠ 3) : Sec L w wn (k + 1) a cap R :=
  ⟨by rw [h.chs]; show _ = YteokjobkjmibfaaGreat.chs L k ++ _; rw [if_neg h3, List.append_nil], fun i hi => by
    by_cases e : i = k
    · rw [e]; exact hb
    · exact h.good i (by omega), h.own.chg0 hc, h.chg.step hc (by simp), by have := h.few; omega⟩
theorem bad_any {L : List Ev} {k : Nat} (hk : k < L.length) (hb : (L.getD k default).bad = true) : L.any Ev.bad = true := by
  rw [List.any_eq_true]; exact ⟨_, getD_mem hk, hb⟩
theorem none_bad {L : List Ev} (h : ∀ i, i < L.length → (L.getD i default).bad = false) : L.any Ev.bad = false := by
  rw [List.any_eq_false]
  intro e he
  obtain ⟨i, hi, rfl⟩ := List.getElem_of_mem he
  have := h i hi
  rw [List.getD_eq_getElem?_getD, List.getElem?_eq_getElem hi] at this
  simpa using this
theorem Sec.last {L : List Ev} {w wr : World} {a : Option Addr} {cap : Nat} {R : List Row1} {m : Int} (h : Sec L w wr L.length a cap R) (h2 : ¬ 200 < L.length) (hw : ways L L.length = some m) : cutsErr L = 0 := by
  unfold cutsErr
  rw [if_neg h2, if_neg (by rw [hw]; simp), none_bad h.good]; rfl
theorem Sec.post {L : List Ev} {w wr : World} {a : Option Addr} {cap : Nat} {R : List Row1} {m : Int} (h : Sec L w wr L.length a cap R) (h2 : ¬ 200 < L.length) (hw : ways L L.length = some m) : CutsPost L w (.returned (.tuple #[.slice a R.length cap, .int .i64 0])) wr :=
  ⟨a, cap, R, by rw [h.last h2 hw], fun h0 => absurd (h.last h2 hw) h0, fun _ => h.chs, h.own, h.chg.below (Nat.le_refl _) (by simp)⟩
theorem Sec.bad {L : List Ev} {k : Nat} {m : Int} (hk : k < L.length) (hb : (L.getD k default).bad = true) (h2 : ¬ 200 < L.length) (hw : ways L L.length = some m) : cutsErr L = 1 := by
  unfold cutsErr
  rw [if_neg h2, if_neg (by rw [hw]; simp), bad_any hk hb]; rfl

theorem bounds_lohi {w : World} {a : Option Addr} {L : List Ev} (h : EvRow w a L) {at_ : Nat} (ha : at_ < L.length) (cap : Nat) (hcap : L.length ≤ cap) :
    Calls Tryz.prog 22 #[.slice a L.length cap, .int .i64 at_] w fun e w' => e = .returned (.tuple #[.int .u64 (lo L at_), .int .u64 (hi L at_)]) ∧ Below w.heap.size w w' := bounds_any h ha cap hcap

set_option maxHeartbeats 2000000 in
set_option maxRecDepth 1000000 in
theorem cuts_any {w : World} {la : Option Addr} {L : List Ev} (h : EvRow w la L) (hlen : L.length ≤ 400) (lc : Nat) (hlc : L.length ≤ lc) :
    Calls Tryz.prog 8 #[.slice la L.length lc] w (CutsPost L w) := by
  by_cases h200 : 200 < L.length
  · have hce : cutsErr L = 2 := by unfold cutsErr; rw [if_pos h200]
    have HCE := Lib.hid hce
    clear hce h
    go_enter Tryz.func8, Tryz.ntmps8
    go_wp2_with fail
    go_ret2
    exact CutsPost.fail HCE.out (by decide) (Below.refl _ _)
  · have HOKS := Lib.hid h.1
    have H200 := Lib.hid h200
    go_enter Tryz.func8, Tryz.ntmps8
    go_wp2_with fail
    go_loopg [4, 21] L.length (fun q s4 s21 wr => ∃ (k : Nat) (m : Int), k ≤ L.length ∧ q = L.length - k ∧ s21 = .int .i64 k ∧ s4 = .int .u64 m ∧ ways L k = some m ∧ Chg [] w wr)
    case atStart => exact ⟨0, 1, Nat.zero_le _, rfl, rfl, rfl, rfl, Chg.refl _ _⟩
    case round =>
      obtain ⟨k, m, hk, rfl, rfl, rfl, hw, hC⟩ := hrel
      have HW := Lib.hid hw
      clear hw
      by_cases hlt : k < L.length
      case neg =>
        obtain rfl : k = L.length := by omega
        have hsm := ways_small HOKS.out L.length m HW.out
        have HSM := Lib.hid hsm
        clear hsm
        go_wp2_with fail
        go_loopg [9, 57] L.length (fun q s9 s57 wr => ∃ (k : Nat) (a : Option Addr) (cap : Nat) (R : List Row1), k ≤ L.length ∧ q = L.length - k ∧ s57 = .int .i64 k ∧ s9 = .slice a R.length cap ∧ Sec L w wr k a cap R)
        case atStart => exact ⟨0, none, 0, [], Nat.zero_le _, rfl, rfl, rfl, Sec.start L hC⟩
        case round =>
          obtain ⟨k, a, cap, R, hk, rfl, rfl, rfl, hS⟩ := hrel
          have hC2 := hS.chg
          have hfew := hS.few
          have HS := Lib.hid hS
          clear hS hC
          by_cases hlt : k < L.length
          case neg =>
            obtain rfl : k = L.length := by omega
            go_wp2_with fail
            go_ret2
            exact HS.out.post H200.out HW.out
          case pos =>
            have hLr := h.chgN hC2 (by simp)
            obtain ⟨b, o, rfl, hcs6, hok⟩ := hLr.at_ hlt
            obtain ⟨d0, d1, d2, d3, d4, d5⟩ := hcs6 k hlt
            obtain ⟨x, hx⟩ : ∃ x, L.getD k default = x := ⟨_, rfl⟩
            rw [hx] at d0 d1 d2 d3 d4 d5
            have HX := Lib.hid hx
            clear hx hcs6 hok
            obtain ⟨xk, xn, xe, xl, xrs, xws, xra, xrc, xwa, xwc⟩ := x
            simp only at d0 d1 d2 d3 d4 d5
            by_cases q1 : xk < 1
            · clear hLr
              go_wp2_with fail
              go_ret2
              exact CutsPost.fail (Sec.bad hlt (by rw [HX.out]; simp [Ev.bad, q1]) H200.out HW.out) (by decide) ((hC2.alloc _).below (Nat.le_refl _) (by simp))
            by_cases q4 : 4 < xk
            · clear hLr
              go_wp2_with fail
              go_ret2
              exact CutsPost.fail (Sec.bad hlt (by rw [HX.out]; simp [Ev.bad, q4]) H200.out HW.out) (by decide) ((hC2.alloc _).below (Nat.le_refl _) (by simp))
            have hgood : (L.getD k default).bad = false := by rw [HX.out]; simp [Ev.bad]; omega
            have HGOOD := Lib.hid hgood
            clear hgood
            by_cases q3 : xk = 3
            case neg =>
              clear hLr
              go_wp2_with fail
              go_roundg (L.length - (k + 1))
              case measure => omega
              case rel => exact ⟨k + 1, a, cap, R, by omega, rfl, by go_num, rfl, HS.out.skip ((Chg.refl _ _).alloc _) HGOOD.out (by rw [HX.out]; exact q3)⟩
            case pos =>
              subst q3
              have hB := bounds_lohi (hLr.chgN ((Chg.refl [] wr).alloc (.cells #[.int .i64 3, .int .i64 xn, .int .u64 xe, .int .u64 xl, .slice xra xrs.length xrc, .slice xwa xws.length xwc] 66)) (by simp)) hlt lc hlc
              have hlh := lohi HOKS.out k
              have hsm := HSM.out k hlt (by rw [HX.out])
              have hst : chs L (k + 1) = chs L k ++ [rng (lo L k) (hi L k - lo L k + 1).toNat] := by
                show chs L k ++ _ = _
                rw [HX.out, if_pos rfl]
              generalize lo L k = l at hst hlh hB hsm
              generalize hi L k = u at hst hlh hB hsm
              obtain ⟨hlh1, hlh2, hlh3⟩ := hlh
              have HST := Lib.hid hst
              clear hst hLr q1 q4
              go_wp2_with fail
              refine hB.mono ?_
              rintro e w2 ⟨rfl, hb⟩
              have hCb : Chg [] wr w2 := ((Chg.refl [] wr).alloc (.cells #[.int .i64 3, .int .i64 xn, .int .u64 xe, .int .u64 xl, .slice xra xrs.length xrc, .slice xwa xws.length xwc] 66)).ofBelow hb
              go_wp2_with fail
              go_loopg [14, 86] (u - l + 1).toNat (fun q s14 s86 wi => ∃ (j : Nat) (a2 : Option Addr) (cap2 : Nat), (j : Int) ≤ u - l + 1 ∧ q = (u - l + 1).toNat - j ∧ s86 = .int .i64 j ∧ s14 = .slice a2 j cap2 ∧ OwnU wi w2.heap.size a2 cap2 (rng l j) ∧ Chg [] w2 wi)
              case atStart => exact ⟨0, none, 0, by omega, rfl, rfl, rfl, OwnU.nil _ _, Chg.refl _ _⟩
              case round =>
                obtain ⟨j, a2, cap2, hj, rfl, rfl, rfl, hU, hCi⟩ := hrel
                have hwi := hCi.size
                have hlU := rng_length l j
                have HLU := Lib.hid hlU
                clear hlU
                by_cases hjl : (j : Int) < u - l + 1
                case pos =>
                  have hU1 := hU.chg ((Chg.refl [] wr).alloc (.cells #[.int .u64 (l + j)] 64)) (by simp)
                  have hlx : wfu64 (l + j) := wfu64_of (by omega) (by omega)
                  have hB1 := Blk.new wr #[.int .u64 (l + j)] 64
                  have HU := Lib.hid hU
                  have HU1 := Lib.hid hU1
                  clear hU hU1
                  go_wp2_with (at_builtin; refine wpList_appendU _ rfl _ _ rfl w2.heap.size a2 cap2 j (rng l j) HLU.out rfl HU1.out (by simp; omega) (by rw [HLU.out]; omega) wr.heap.size 1 (l + j) hlx rfl (hB1.cell 0 rfl) ?_; intro a5 cap5 w5 hO6 hg6 hat6)
                  go_roundg ((u - l + 1).toNat - (j + 1))
                  case measure => omega
                  case rel => exact ⟨j + 1, a5, cap5, by omega, rfl, by go_num, rfl, by rw [rng_succ]; exact hO6, (hCi.alloc _).grown hg6 (fun g hg => .inr (HU.out.blk hg).1)⟩
                case neg =>
                  have hje : (u - l + 1).toNat = j := by omega
                  have hCw := HS.out.chg.step (hCb.step hCi (by simp)) (by simp)
                  have hsw := hCw.size
                  have hU1 := (hU.chg ((Chg.refl [] wr).alloc (.cells #[.slice a2 j cap2] 23)) (by simp)).mono (show w.heap.size ≤ w2.heap.size by have := (HS.out.chg.step hCb (by simp)).size; exact this)
                  have hOO := HS.out.own.chg0 ((hCb.step hCi (by simp)).alloc (.cells #[.slice a2 j cap2] 23))
                  have hfull := hU1.some_of (by rw [HLU.out]; omega)
                  have hap : ∀ s ∈ R, blkOf s.a ≠ blkOf a2 := fun s hs e => by
                    cases h1 : blkOf a2 with
                    | none => exact hfull h1
                    | some g =>
                      have h2 := (hU.blk h1).1
                      have h3 := (HS.out.own.each s hs).lt (e.trans h1)
                      have h4 := hCb.size
                      omega
                  have hB1 := Blk.new wr #[.slice a2 j cap2] 23
                  have HJE := Lib.hid hje
                  have HU1 := Lib.hid hU1
                  have HOO := Lib.hid hOO
                  have HFULL := Lib.hid hfull
                  have HAP := Lib.hid hap
                  clear hje hU1 hOO hfull hap hU
                  go_wp2_with (at_builtin; refine wpList_appendUU _ rfl _ _ rfl w.heap.size a cap R.length R rfl rfl HOO.out (by simp; omega) (by omega) wr.heap.size 1 ⟨a2, cap2, rng l j⟩ HU1.out HFULL.out HAP.out rfl (by show _ = some (Value.slice a2 (rng l j).length cap2); rw [HLU.out]; exact hB1.cell 0 rfl) ?_; intro a5 cap5 w5 hO6 hg6 hat6)
                  go_roundg (L.length - (k + 1))
                  case measure => omega
                  case rel => exact ⟨k + 1, a5, cap5, R ++ [⟨a2, cap2, rng l j⟩], by omega, rfl, by go_num, by rw [List.length_append]; rfl, ⟨by rw [HST.out, HJE.out, List.map_append, HS.out.chs]; rfl, fun i hi => by
                    by_cases e : i = k
                    · rw [e]; exact HGOOD.out
                    · exact HS.out.good i (by omega), hO6, (hCw.alloc _).grown hg6 (fun g hg => .inr (HOO.out.lt hg).1), by simp; omega⟩⟩
      case pos =>
        have hLr := h.chgN hC (by simp)
        obtain ⟨b, o, rfl, hcs6, hok⟩ := hLr.at_ hlt
        obtain ⟨d0, d1, d2, d3, d4, d5⟩ := hcs6 k hlt
        obtain ⟨x, hx⟩ : ∃ x, L.getD k default = x := ⟨_, rfl⟩
        rw [hx] at d0 d1 d2 d3 d4 d5
        have HX := Lib.hid hx
        clear hx hcs6 hok
        obtain ⟨xk, xn, xe, xl, xrs, xws, xra, xrc, xwa, xwc⟩ := x
        simp only at d0 d1 d2 d3 d4 d5
        have hmr := ways_range HOKS.out k m HW.out
        have hlh := lohi HOKS.out k
        have hB := bounds_lohi (hLr.chgN ((Chg.refl [] wr).alloc (.cells #[.int .i64 xk, .int .i64 xn, .int .u64 xe, .int .u64 xl, .slice xra xrs.length xrc, .slice xwa xws.length xwc] 66)) (by simp)) hlt lc hlc
        by_cases q3 : xk = 3
        case neg =>
          have hst : ways L (k + 1) = some m := by
            unfold ways; rw [HW.out, HX.out]; simp only [Option.bind_some]; rw [if_neg q3]
          have HST := Lib.hid hst
          clear hst hB hLr
          go_wp2_with fail
          go_roundg (L.length - (k + 1))
          case measure => omega
          case rel => exact ⟨k + 1, m, by omega, rfl, by go_num, rfl, HST.out, hC.alloc _⟩
        case pos =>
          subst q3
          have hst : ways L (k + 1) = wstep m (lo L k) (hi L k) := by
            rw [ways, HW.out, HX.out]; simp only [Option.bind_some]; rw [if_pos trivial]
          generalize lo L k = l at hst hlh hB
          generalize hi L k = u at hst hlh hB
          obtain ⟨hlh1, hlh2, hlh3⟩ := hlh
          obtain ⟨hmr1, hmr2⟩ := hmr
          have HST := Lib.hid hst
          clear hst hLr
          have hend : ways L (k + 1) = none → cutsErr L = 2 := fun h0 => by
            unfold cutsErr
            rw [if_neg H200.out, if_pos (ways_none h0 _ hlt)]
          have HEND := Lib.hid hend
          clear hend
          by_cases g1 : 3000 ≤ u - l
          · go_wp2_with fail
            refine hB.mono ?_
            rintro e w2 ⟨rfl, hb⟩
            go_wp2_with fail
            go_ret2
            exact CutsPost.fail (HEND.out (by rw [HST.out]; unfold wstep; rw [if_pos (.inl g1)])) (by decide) ((hC.alloc _).ofBelow hb |>.below (Nat.le_refl _) (by simp))
          · obtain ⟨p, hp⟩ : ∃ p, m * (u - l + 1) = p := ⟨_, rfl⟩
            have hp1 : 1 * (u - l + 1) ≤ m * (u - l + 1) := Int.mul_le_mul_of_nonneg_right hmr1 (by omega)
            have hp2 : m * (u - l + 1) ≤ 3000 * (u - l + 1) := Int.mul_le_mul_of_nonneg_right hmr2 (by omega)
            by_cases g2 : 3000 < m * (u - l + 1)
            · have HP := Lib.hid hp
              clear hp
              go_wp2_with fail
              refine hB.mono ?_
              rintro e w2 ⟨rfl, hb⟩
              go_wp2_with fail
              go_ret2
              exact CutsPost.fail (HEND.out (by rw [HST.out]; unfold wstep; rw [if_pos (.inr g2)])) (by decide) ((hC.alloc _).ofBelow hb |>.below (Nat.le_refl _) (by simp))
            · have HP := Lib.hid hp
              clear hp
              go_wp2_with fail
              refine hB.mono ?_
              rintro e w2 ⟨rfl, hb⟩
              go_wp2_with fail
              go_roundg (L.length - (k + 1))
              case measure => omega
              case rel => exact ⟨k + 1, m * (u - l + 1), by omega, rfl, by go_num, rfl, by rw [HST.out]; unfold wstep; rw [if_neg (by omega)], (hC.alloc _).ofBelow hb⟩

end Go.Proofs.YteokjobkjmibfaaGreat
