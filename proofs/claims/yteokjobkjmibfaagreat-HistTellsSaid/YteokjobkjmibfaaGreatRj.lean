/- The walk of the reference's Judge. Condition: the events can be read, at most 400 of them. Printed by wip/tools/rjudge.py. -/
import Derived.Test.YteokjobkjmibfaaGreatRh
import Derived.Test.YteokjobkjmibfaaGreatRp
namespace Go.Proofs.YteokjobkjmibfaaGreat
open Go.RowKit Go.Maps

theorem Fit.chgN {w w' : World} {e : Ev} (h : Fit w e) {S : List Nat} (hc : Chg S w w') (hn : ∀ g, g < w.heap.size → g ∉ S) : Fit w' e := ⟨h.ok, h.lies.chgN hc hn, h.few⟩

theorem rcuts_ok {w : World} {la : Option Addr} {L : List Ev} (h : EvRow w la L) (hlen : L.length ≤ 400) (lc : Nat) (hlc : L.length ≤ lc) (h0 : cutsErr L = 0) :
    Calls Tryz.prog 9 #[.slice la L.length lc] w fun e w' => ∃ (a : Option Addr) (cap : Nat) (R : List Row1), e = .returned (.tuple #[.slice a R.length cap, .int .i64 0]) ∧ R.map Row1.C = chs L L.length ∧ OwnUU w' w.heap.size a cap R ∧ Below w.heap.size w w' :=
  (rcuts_any h hlen lc hlc).mono fun _ _ ⟨a, cap, R, he, _, h1, h2, h3⟩ => ⟨a, cap, R, by rw [he, h0], h1 h0, h2, h3⟩
theorem rcuts_err {w : World} {la : Option Addr} {L : List Ev} (h : EvRow w la L) (hlen : L.length ≤ 400) (lc : Nat) (hlc : L.length ≤ lc) {c : Int} (hc : cutsErr L = c) (h0 : c ≠ 0) :
    Calls Tryz.prog 9 #[.slice la L.length lc] w fun e w' => ∃ (a : Option Addr) (cap : Nat), e = .returned (.tuple #[.slice a 0 cap, .int .i64 c]) ∧ Below w.heap.size w w' :=
  (rcuts_any h hlen lc hlc).mono fun _ _ ⟨a, cap, R, he, h1, _, _, h3⟩ => ⟨a, cap, by rw [he, hc, h1 (by rw [hc]; exact h0)]; rfl, h3⟩
theorem rplay_lit {w : World} {la : Option Addr} {L : List Ev} (hL : EvRow w la L) (hl : ∀ e ∈ L, Fit w e) (hlen : L.length ≤ 400) (lc : Nat) {ca : Option Addr} {C : List Int} (hC : NumsAt w ca C) (cc : Nat) {n : Nat} (hn : C.length = n) {b : Bool} (hb : playOk L C = b) :
    Calls Tryz.prog 13 #[.slice la L.length lc, .slice ca n cc] w fun x w' => ∃ a m cap, x = .returned (.tuple #[.bool b, .slice a m cap]) ∧ Below w.heap.size w w' := by
  subst hn
  subst hb
  exact (rplay_any hL hl hlen lc hC cc).mono fun _ _ ⟨a, cap, he, _, _, hb⟩ => ⟨a, _, cap, by rw [← rplay_eq hL.1 C]; exact he, hb⟩

section
variable {ops : Array Oper} {o : Oper} {a : Act} {Q : Exit → Act → World → Prop}
theorem step_appendU {K : Act → World → Prop} {E : Prop} (w : World) (hgd : o.guard = none) (s x : Operand) (ho : o.op = .call { callee := .builtin .append, args := #[s, x], argTypes := #[23, 23] })
    (base : Nat) (sa : Option Addr) (cap n : Nat) (L : List Int) (hn : L.length = n) (hs : a.eval s = .slice sa n cap) (hown : OwnU w base sa cap L) (hb : base ≤ w.heap.size) (hl : L.length < 1000000000)
    (g c : Nat) (e : Int) (he : wfu64 e) (hx : a.eval x = .slice (some ⟨g, 0, none⟩) 1 c) (hc : w.cell? ⟨g, 0, none⟩ = some (.int .u64 e))
    (h : ∀ a' cap' w', OwnU w' base a' cap' (L ++ [e]) → w.grownBy w' (blkOf sa) → (blkOf a' = blkOf sa ∨ blkOf a' = some w.heap.size) → K (a.put o.dst (.slice a' (n + 1) cap')) w') :
    if Region.wanted o (yielded ops a.tmps) = true then Oper.wp Tryz.prog o a w K Q else E := by
  subst hn
  have hw : Region.wanted o (yielded ops a.tmps) = true := by simp [Region.wanted, hgd]
  rw [if_pos hw]
  obtain ⟨a', cap', w', hr, h1, h2, h3⟩ := appendU_run w o.type hown hb hl g c e he hc
  unfold Oper.wp execOp
  simp only [ho, resolve, invoke, builtin, Sem.run_bind, Sem.run_pure, Result.andThen_ok, List.map_toArray, List.map_cons, List.map_nil, hs, hx, hr]
  exact h a' cap' w' h1 h2 h3
end

set_option maxHeartbeats 4000000 in
set_option maxRecDepth 1000000 in
theorem rjudge_any {w : World} {la : Option Addr} {L : List Ev} (hL : EvRow w la L) (hl : ∀ e ∈ L, Fit w e) (hlen : L.length ≤ 400) (lc : Nat) (hlc : L.length ≤ lc) :
    Calls Tryz.prog 19 #[.slice la L.length lc] w (JudgePost L w) := by
  by_cases h0 : cutsErr L = 0
  case neg =>
    obtain ⟨c, hc⟩ : ∃ c, cutsErr L = c := ⟨_, rfl⟩
    rw [hc] at h0
    have hE := rcuts_err hL hlen lc hlc hc h0
    have hj : judgeOk L = false := by
      unfold judgeOk; rw [hc, Bool.and_eq_false_iff]; left; simpa using h0
    have HJ := Lib.hid hj
    have HC := Lib.hid hc
    clear hj hc hL hl
    go_enter Tryz.func19, Tryz.ntmps19
    go_wp2_with fail
    refine hE.mono ?_
    rintro e w1 ⟨a, cap, rfl, hb⟩
    go_wp2_with fail
    go_ret2
    exact JudgePost.mk HJ.out HC.out hb
  case pos =>
    have hCu := rcuts_ok hL hlen lc hlc h0
    have HOKS := Lib.hid hL.1
    have H0 := Lib.hid h0
    have HL := Lib.hid hL
    have HLI := Lib.hid hl
    have hcf := chs_full L hL.1 L.length
    have hsm := chs_small0 hL.1 h0
    have HSM := Lib.hid hsm
    clear hsm
    have HCF := Lib.hid hcf
    have hcl := chs_length L L.length
    clear hL hl h0 hcf
    go_enter Tryz.func19, Tryz.ntmps19
    go_wp2_with fail
    refine hCu.mono ?_
    rintro e w1 ⟨a, cap, R, rfl, hR, hOO, hb1⟩
    have hRl : R.length = (chs L L.length).length := by rw [← hR, List.length_map]
    have hRs : R.length ≤ 400 := by omega
    have hmk := make_places R.length (by omega)
    obtain ⟨X, hX⟩ : ∃ X, chs L L.length = X := ⟨_, rfl⟩
    rw [hX] at hR hRl HCF hcl HSM
    have hxl : ∀ k, k < R.length → X.getD k [] = (R.getD k default).C := fun k hk => by
      rw [← hR, List.getD_eq_getElem?_getD, List.getD_eq_getElem?_getD, List.getElem?_map, List.getElem?_eq_getElem hk]; rfl
    have HXE := Lib.hid hX
    have HRL := Lib.hid hRl
    have HR := Lib.hid hR
    have HXL := Lib.hid hxl
    have HOO := Lib.hid hOO
    have hg0 : JInv L X w1.heap.size (w1.alloc (.cells (placeCells (List.replicate R.length 0)) 3)) (w1.alloc (.cells (placeCells (List.replicate R.length 0)) 3)) 0 :=
      ⟨count_pos X (fun c hc => (HCF.out c hc).1), by rw [place_zero, ← hRl]; exact Blk.new _ _ _, fun m hm => by omega, Chg.refl _ _⟩
    have hC1 : Chg [] w (w1.alloc (.cells (placeCells (List.replicate R.length 0)) 3)) := ((Chg.refl [] w).ofBelow hb1).alloc _
    have hC2 : Chg [] w1 (w1.alloc (.cells (placeCells (List.replicate R.length 0)) 3)) := (Chg.refl [] w1).alloc _
    have hsW : (w1.alloc (.cells (placeCells (List.replicate R.length 0)) 3)).heap.size = w1.heap.size + 1 := by simp
    have HSW := Lib.hid hsW
    have hw1 := hb1.size
    clear hX hRl hR hxl hOO hCu hsW
    go_wp2_with fail
    generalize w1.alloc (.cells (placeCells (List.replicate R.length 0)) 3) = W at hg0 hC1 hC2 HSW ⊢
    go_loopg [11] (count X) (fun q s11 wr => ∃ n, q = count X - n ∧ JInv L X w1.heap.size W wr n)
    case atStart => exact ⟨0, rfl, hg0⟩
    case round =>
      obtain ⟨n, rfl, hI⟩ := hrel
      clear hg0 hmk
      have hCw : Chg [w1.heap.size] w1 wr := hC2.mono (by simp) |>.trans hI.chg
      have hCW : Chg [] w wr := hC1.step hI.chg (by simp; omega)
      have hOO := HOO.out.chgN hCw (by simp; omega)
      have hpl := place_length X n
      have hpk := pick_length X n
      have hplt := place_lt X (fun c hc => (HCF.out c hc).1) n
      have hpat := pick_at X n
      have hB := hI.row
      have hsr := hCw.size
      rw [← HRL.out] at hpl hpk hplt hpat
      have HI := Lib.hid hI
      have HPL := Lib.hid hpl
      have HPK := Lib.hid hpk
      have HPLT := Lib.hid hplt
      have HPAT := Lib.hid hpat
      have HO2 := Lib.hid hOO
      clear hI hpl hpk hplt hpat hOO
      go_wp2_with fail
      obtain ⟨W2, rfl⟩ : ∃ W2 : World, W2 = wr := ⟨_, rfl⟩
      go_loopg [7, 8] R.length (fun q s7 s8 wi => ∃ (j : Nat) (a2 : Option Addr) (cap2 : Nat), j ≤ R.length ∧ q = R.length - j ∧ s8 = .int .i64 j ∧ s7 = .slice a2 j cap2 ∧ OwnU wi W2.heap.size a2 cap2 ((pick X n).take j) ∧ Chg [] W2 wi)
      case atStart => exact ⟨0, none, 0, Nat.zero_le _, rfl, rfl, rfl, OwnU.nil _ _, Chg.refl _ _⟩
      case round =>
        obtain ⟨j, a2, cap2, hj, rfl, rfl, rfl, hU, hCi⟩ := hrel
        have hwi := hCi.size
        have htl : ((pick X n).take j).length = j := by rw [List.length_take, HPK.out]; omega
        have HTL := Lib.hid htl
        clear htl
        by_cases hlt : j < R.length
        case pos =>
          obtain ⟨gX, hb, rfl, d1, e2, e3, e4⟩ := HO2.out.at_ hlt
          have d5 : W2.cell? ⟨w1.heap.size, j, none⟩ = some (.int .i64 ((place X n).getD j 0 : Nat)) := hB.cell j (placeCells_get _ _ (by rw [HPL.out]; exact hlt))
          have e6 := HPLT.out j hlt
          have e7 := HPAT.out j hlt
          rw [HXL.out j hlt] at e6 e7
          have d8 := e4 _ e6
          rw [← e7] at d8
          have hst : (pick X n).take (j + 1) = (pick X n).take j ++ [(pick X n).getD j 0] := take_step0 (by rw [HPK.out]; exact hlt)
          have hxw : wfu64 ((pick X n).getD j 0) := by
            obtain ⟨c, hc, hx⟩ := pick_mem X (fun c hc => (HCF.out c hc).1) n _ (getD_mem0 (by rw [HPK.out]; exact hlt))
            rw [← HR.out] at hc
            obtain ⟨r, hr, rfl⟩ := List.mem_map.1 hc
            exact (HO2.out.each r hr).1 _ hx
          generalize (pick X n).getD j 0 = x at hst hxw d8
          generalize (place X n).getD j 0 = p at d5 e6 d8
          obtain ⟨r, hr⟩ : ∃ r, R.getD j default = r := ⟨_, rfl⟩
          rw [hr] at d1 e2 e3 e6
          obtain ⟨ra, rcap, rC⟩ := r
          simp only [Row1.val] at d1 e2 e3 e6
          subst e2
          have e1 := (hCi.cell (lt_of_cell d1) (by simp)).trans d1
          have e5 := (hCi.cell (lt_of_cell d5) (by simp)).trans d5
          have e8 := (hCi.cell (lt_of_cell d8) (by simp)).trans d8
          have HD1 := Lib.hid d1
          have HD5 := Lib.hid d5
          have HD8 := Lib.hid d8
          have HST := Lib.hid hst
          have HU := Lib.hid hU
          have e9 : (0 : Int) ≤ (p : Int) := by omega
          have e10 : (p : Int) < (rC.length : Int) := by omega
          have e11 : (0 : Int) ≤ (j : Int) := by omega
          have e12 : (j : Int) < (R.length : Int) := by omega
          have HU1 := Lib.hid (hU.chg ((Chg.refl [] wr).drew.alloc (.cells #[.int .u64 x] 64)) (by simp))
          have HU2 := Lib.hid (hU.chg (((Chg.refl [] wr).alloc (.cells #[.int .u64 x] 64)).drew) (by simp))
          clear hst hU e4 e7 hr d1 d5 d8
          go_wp2_with fail
          go_region_held3 (fun w' => w'.cell? ⟨gX, j, none⟩ = some (.slice (some ⟨hb, 0, none⟩) rC.length rcap) ∧ w'.cell? ⟨w1.heap.size, j, none⟩ = some (.int .i64 (p : Int)) ∧ w'.cell? ⟨hb, p, none⟩ = some (.int .u64 x))
            (first | (refine ⟨(hC6.cell (lt_of_cell HD1.out) (by simp)).trans HD1.out, (hC6.cell (lt_of_cell HD5.out) (by simp)).trans HD5.out, (hC6.cell (lt_of_cell HD8.out) (by simp)).trans HD8.out⟩) | go_keep)
            (first
              | ((refine step_appendU _ (by rfl) _ _ (by rfl) W2.heap.size a2 cap2 j _ HTL.out (by rfl) (by first | exact HU1.out | exact HU2.out) (by simp; omega) (by rw [HTL.out]; omega) wr.heap.size 1 x hxw (by rfl) (by first | exact (Blk.newDrew _ _ _ rfl).cell 0 rfl | exact (Blk.newAt _ _ _ rfl).cell 0 rfl) ?_; intro a5 cap5 w5 hO6 hg6 hat6; have hC6 : Chg [] W2 w5 := (by first | exact (hCi.drew.alloc _).grown hg6 (fun g hg => .inr (HU.out.blk hg).1) | exact ((hCi.alloc _).drew).grown hg6 (fun g hg => .inr (HU.out.blk hg).1))))
              | (fail))
          all_goals
            go_wp2_with fail
            go_roundg (R.length - (j + 1))
            case measure => omega
            case rel => exact ⟨j + 1, a5, cap5, by omega, rfl, by go_num, rfl, by rw [HST.out]; exact hO6, hC6⟩
        case neg =>
          obtain rfl : j = R.length := by omega
          have hcc := hU.cap_ge
          have hU2 : OwnU wr W2.heap.size a2 cap2 (pick X n) := by
            have := hU
            rwa [List.take_of_length_le (by rw [HPK.out]; exact Nat.le_refl _)] at this
          rw [HTL.out] at hcc
          have hCx : Chg [] w wr := hCW.step hCi (by simp)
          obtain ⟨ok, hok⟩ : ∃ ok, playOk L (pick X n) = ok := ⟨_, rfl⟩
          have hP := rplay_lit (HL.out.chgN hCx (by simp)) (fun e he => (HLI.out e he).chgN hCx (by simp)) hlen lc (hU2.nums (by rw [HPK.out]; omega)) cap2 HPK.out hok
          have HOK := Lib.hid hok
          have hC3 : Chg [w1.heap.size] W wr := HI.out.chg.step hCi (by simp)
          have hB3 := hB.chg hCi (by simp)
          have hO3 := HO2.out.chgN hCi (by simp)
          have HO3 := Lib.hid hO3
          clear hU hU2 hok hO3 hB
          go_wp2_with fail
          refine hP.mono ?_
          rintro e w5 ⟨aI, mI, capI, rfl, hb5⟩
          have hC5 : Chg [w1.heap.size] W w5 := hC3.ofBelow hb5
          have hB5 := hB3.chg ((Chg.refl [] wr).ofBelow hb5) (by simp)
          have hO5 := HO3.out.chgN ((Chg.refl [] wr).ofBelow hb5) (by simp)
          have HO5 := Lib.hid hO5
          have hCx5 : Chg [] w w5 := hCx.ofBelow hb5
          clear hC3 hB3 hO5 hP
          cases ok
          case true =>
            go_wp2_with fail
            go_ret2
            exact JudgePost.mk (judge_yes (n := n) H0.out (by rw [HXE.out]; exact HI.out.less) (by rw [HXE.out]; exact HOK.out)) H0.out (hCx5.below (Nat.le_refl _) (by simp))
          case false =>
            go_wp2_with fail
            have hs5 := hC5.size
            have hs0 := HSW.out
            have hnx : ∀ m, m < n + 1 → playOk L (pick X m) = false := fun m hm => by
              by_cases e : m = n
              · rw [e]; exact HOK.out
              · exact HI.out.none_ m (by omega)
            have HNX := Lib.hid hnx
            have HSW5 : w1.heap.size < w5.heap.size := by omega
            have hCw5 : Chg [w1.heap.size] w1 w5 := (hCw.step hCi (by simp)).ofBelow hb5
            clear hnx hs0 hcc hCw hCW hCi hC1 hC2
            go_loopg [11] R.length (fun q s11 wi => ∃ i, i ≤ R.length ∧ q = R.length - i ∧ s11 = .int .i64 i ∧ Blk wi w1.heap.size (placeCells (List.replicate i 0 ++ (place X n).drop i)) 3 ∧ (∀ j, j < i → (place X n).getD j 0 = (X.getD j []).length - 1) ∧ Chg [w1.heap.size] w5 wi)
            case atStart => exact ⟨0, Nat.zero_le _, rfl, rfl, by simpa using hB5, fun j hj => by omega, Chg.refl _ _⟩
            case round =>
              obtain ⟨i, hi, rfl, rfl, hBi, hall, hCi⟩ := hrel
              have HALL := Lib.hid hall
              have hCxi : Chg [] w wr := hCx5.step hCi (by simp; omega)
              clear hall hB5
              by_cases hil : i < R.length
              case neg =>
                obtain rfl : i = R.length := by omega
                have hd : decide ((R.length : Int) < (R.length : Int)) = false := by simp
                have hlast := place_last X (fun c hc => (HCF.out c hc).1) n HI.out.less (fun j hj => HALL.out j (by rw [HRL.out]; exact hj))
                have HLAST := Lib.hid hlast
                clear hlast
                go_wp2_with fail
                go_quiet (fail)
                go_wp2_with fail
                go_ret2
                exact JudgePost.mk (judge_no (fun m hm => by rw [HXE.out] at hm ⊢; exact HNX.out m (by rw [HLAST.out]; exact hm))) H0.out (hCxi.drewN _ |>.below (Nat.le_refl _) (by simp))
              case pos =>
                obtain ⟨gX, hb, rfl, e1, e2, e3, e4⟩ := (HOO.out.chgN (hCw5.trans hCi) (by simp; omega)).at_ hil
                have hsmall : (R.getD i default).C.length ≤ 3000 := HSM.out _ (by rw [← HR.out]; exact List.mem_map_of_mem (getD_mem hil))
                have e5 : wr.cell? ⟨w1.heap.size, i, none⟩ = some (.int .i64 ((place X n).getD i 0 : Nat)) := by
                  have := hBi.cell i (placeCells_get _ i (by rw [List.length_append, List.length_replicate, List.length_drop, HPL.out]; omega))
                  rwa [get_carry _ _ (by rw [HPL.out]; exact hil)] at this
                have e6 := HPLT.out i hil
                have hxl := HXL.out i hil
                obtain ⟨p, hp⟩ : ∃ p, (place X n).getD i 0 = p := ⟨_, rfl⟩
                rw [hp] at e5 e6
                obtain ⟨r, hr⟩ : ∃ r, R.getD i default = r := ⟨_, rfl⟩
                rw [hr] at e1 e2 hxl hsmall
                obtain ⟨ra, rcap, rC⟩ := r
                simp only [Row1.val] at e1 e2 hxl hsmall
                rw [hxl] at e6
                have HXI := Lib.hid hxl
                have HP := Lib.hid hp
                have f1 : (0 : Int) ≤ (i : Int) := by omega
                have f2 : (i : Int) < (R.length : Int) := by omega
                have f3 : (0 : Int) ≤ (p : Int) := by omega
                have f4 : (1 : Int) ≤ (rC.length : Int) := by omega
                have hfr := hBi.free i
                have hBs := hBi.set i (.int .i64 0)
                have hcy := set_carry (place X n) i (by rw [HPL.out]; exact hil)
                have hps := placeCells_set (List.replicate i 0 ++ (place X n).drop i) i 0
                rw [hcy] at hps
                have HPS := Lib.hid hps
                have HBS := Lib.hid hBs
                have HBI := Lib.hid hBi
                clear e3 e4 hr hp hxl hBs hcy hps hBi
                by_cases hpe : p + 1 = rC.length
                case pos =>
                  have g1 : ((p : Int) == (rC.length : Int) - 1) = true := beq_iff_eq.2 (by omega)
                  have HPE := Lib.hid hpe
                  clear hpe
                  go_wp2_with fail
                  go_quiet (fail)
                  go_wp2_with fail
                  go_roundg (R.length - (i + 1))
                  case measure => omega
                  case rel => exact ⟨i + 1, by omega, rfl, by go_num, by rw [← HPS.out]; exact HBS.out, fun j hj => by
                    by_cases e : j = i
                    · rw [e, HP.out, HXI.out, ← HPE.out]; omega
                    · exact HALL.out j (by omega), (hCi.drewN _).setCell ⟨w1.heap.size, i, none⟩ (.inl (by simp)) _⟩
                case neg =>
                  have g1 : ((p : Int) == (rC.length : Int) - 1) = false := beq_eq_false_iff_ne.2 (by omega)
                  have g2 : ((i : Int) == (R.length : Int)) = false := beq_eq_false_iff_ne.2 (by omega)
                  have f5 : (p : Int) + 1 ≤ 3000 := by omega
                  have hne : (place X n).getD i 0 ≠ (X.getD i []).length - 1 := by rw [HP.out, HXI.out]; omega
                  have hlx : i < X.length := by rw [← HRL.out]; exact hil
                  have hmore := place_more X (fun c hc => (HCF.out c hc).1) n i HI.out.less hlx hne
                  have hcar := place_carry X (fun c hc => (HCF.out c hc).1) n i hlx (fun j hj => HALL.out j hj) hne
                  rw [HP.out] at hcar
                  have hB6 := HBI.out.set i (.int .i64 ((p + 1 : Nat) : Int))
                  rw [placeCells_set, ← hcar] at hB6
                  have HB6 := Lib.hid hB6
                  have HMORE := Lib.hid hmore
                  clear hne hlx hmore hcar hB6 hpe
                  go_wp2_with fail
                  go_quiet (fail)
                  go_wp2_with fail
                  go_roundg (count X - (n + 1))
                  case measure => have := HI.out.less; omega
                  case rel => exact ⟨n + 1, rfl, HMORE.out, HB6.out, HNX.out, (hC5.trans (hCi.drewN _)).setCell ⟨w1.heap.size, i, none⟩ (.inl (by simp)) _⟩

end Go.Proofs.YteokjobkjmibfaaGreat
