/- HistTells, walked. Condition: what is handed in can be read. -/
import Derived.Test.YteokjobkjmibfaaGreatHb
namespace Go.Proofs.YteokjobkjmibfaaGreat
open Go.RowKit Go.Maps

set_option maxHeartbeats 32000000 in
set_option maxRecDepth 1000000 in
theorem tells_any {w : World} {la : Option Addr} {L : List Ev} (hL : EvRowW w la L) (lc : Nat) (hlc : L.length ≤ lc) {ca : Option Addr} {C : List Int} (cc : Nat) (hC : Src kN w (.slice ca C.length cc) C) :
    Calls Tryz.prog 3 #[.slice la L.length lc, .slice ca C.length cc] w fun e w' => e = .returned (.bool true) ∧ Below w.heap.size w w' := by
  have HL := Lib.hid hL
  have HC := Lib.hid hC
  obtain ⟨ce, hce⟩ : ∃ ce, cutsErr L = ce := ⟨_, rfl⟩
  obtain ⟨X, hX⟩ : ∃ X, cutsOf L = X := ⟨_, rfl⟩
  obtain ⟨n, hn⟩ : ∃ n, X.length = n := ⟨_, rfl⟩
  obtain ⟨ok, hok⟩ : ∃ ok, playOk L C = ok := ⟨_, rfl⟩
  obtain ⟨I, hI⟩ : ∃ I, (rplay L C).2 = I := ⟨_, rfl⟩
  obtain ⟨jb, hjb⟩ : ∃ jb, judgeOk L = jb := ⟨_, rfl⟩
  have hXs : ∀ c ∈ X, c.length ≤ 3000 := by rw [← hX]; exact cutsOf_small hL.1
  have hnl : n ≤ L.length := by rw [← hn, ← hX]; exact cutsOf_few L
  have HCE := Lib.hid hce
  have HX := Lib.hid hX
  have HNN := Lib.hid hn
  have HOK := Lib.hid hok
  have HI := Lib.hid hI
  have HJB := Lib.hid hjb
  have HXS := Lib.hid hXs
  clear hL hC hce hX hn hok hI hjb hXs
  go_enter Tryz.func3, Tryz.ntmps3
  go_wp2_with fail
  refine (small_any HL.out lc).mono ?_
  rintro e w1 ⟨b, rfl, hb, hC1⟩
  have HB := Lib.hid hb
  clear hb
  cases b
  case false =>
    go_wp2_with fail
    refine (alive_any w1).mono ?_
    rintro e w2 ⟨rfl, hb2⟩
    go_wp2_with fail
    go_ret
    exact ⟨rfl, (hC1.ofBelow hb2).below (Nat.le_refl _) (by simp)⟩
  case true =>
    obtain ⟨h210, hlight⟩ := HB.out (by simp)
    have HIN := Lib.hid (HL.out.in h210 hlight)
    clear hlight HB
    by_cases h40 : 40 < C.length
    case pos =>
      go_wp2_with fail
      refine (alive_any w1).mono ?_
      rintro e w2 ⟨rfl, hb2⟩
      go_wp2_with fail
      go_ret
      exact ⟨rfl, (hC1.ofBelow hb2).below (Nat.le_refl _) (by simp)⟩
    case neg =>
      have hs1 := hC1.size
      go_wp2_with fail
      refine (plain_any ((HIN.out.chg0 (hC1.alloc _)).row) (by omega) lc).mono ?_
      rintro e w2 ⟨xa, xc, rfl, hX2, hXn, hC2⟩
      have hbk2 : BookIs w2 w.heap.size w1.heap.size ⟨none, 0, [], none, 0, []⟩ ⟨none, 0, [], none, 0, []⟩ := (BookIs.made w1 hs1).chg0 hC2
      have hCw2 : Chg [] w w2 := (hC1.alloc _).trans hC2
      have HX2 := Lib.hid hX2
      have HBK2 := Lib.hid hbk2
      have HCW2 := Lib.hid hCw2
      obtain ⟨B, hB⟩ : ∃ B, w1.heap.size = B := ⟨_, rfl⟩
      rw [hB] at HBK2
      simp only [hB]
      clear hX2 hbk2 hCw2 hXn hC2 hC1 hs1
      go_wp2_with fail
      go_loopg [7] 2 (fun q s7 wr => ∃ (k : Nat) (N : Part Int) (M : Part Img), k ≤ 2 ∧ q = 2 - k ∧ s7 = .int .i64 k ∧ BookIs wr w.heap.size B N M ∧ OwnR wr xa xc L ∧ Chg [] w wr)
      case atStart => exact ⟨0, _, _, by omega, rfl, rfl, HBK2.out, HX2.out, HCW2.out⟩
      case round =>
        obtain ⟨k, N, M, hk, rfl, rfl, hbk, hXr, hCw⟩ := hrel
        have HBK := Lib.hid hbk
        have HXR := Lib.hid hXr
        have HCW := Lib.hid hCw
        have hsw := hCw.size
        clear hbk hXr hCw HX2 HBK2 HCW2 hB
        by_cases hk2 : k < 2
        case neg =>
          obtain rfl : k = 2 := by omega
          by_cases hl40 : 40 < L.length
          case pos =>
            go_wp2_with fail
            refine (alive_any wr).mono ?_
            rintro e w3 ⟨rfl, hb3⟩
            have HC3 := Lib.hid (HCW.out.ofBelow hb3)
            have HBK3 := Lib.hid (HBK.out.chg0 ((Chg.refl [] wr).ofBelow hb3))
            clear hb3
            go_wp2_with fail
            refine (apart_any HBK3.out).mono ?_
            rintro e w4 ⟨rfl, S, hS, hSb⟩
            go_wp2_with fail
            go_ret
            exact ⟨rfl, (HC3.out.step hS (fun g hg => .inr (hSb g hg))).below (Nat.le_refl _) (by simp)⟩
          case neg =>
            go_wp2_with fail
            refine (judge_tell (HIN.out.chg0 HCW.out).row (HIN.out.chg0 HCW.out).lies (by omega) lc hlc HJB.out HCE.out).mono ?_
            rintro e w3 ⟨rfl, hC3⟩
            have HC3 := Lib.hid (HCW.out.trans hC3)
            have HX3 := Lib.hid (HXR.out.chg hC3 (by simp))
            have HBK3 := Lib.hid (HBK.out.chg0 hC3)
            clear hC3
            go_wp2_with fail
            refine (rjudge_tell (HX3.out.row (by omega)) (HIN.out.chg0 HC3.out).fit (by omega) xc HX3.out.cap_ge HJB.out HCE.out).mono ?_
            rintro e w4 ⟨rfl, hC4⟩
            have HC4 := Lib.hid (HC3.out.trans hC4)
            have HBK4 := Lib.hid (HBK3.out.chg0 hC4)
            clear hC4
            go_wp2_with fail
            refine (alive_any w4).mono ?_
            rintro e w5 ⟨rfl, hb5⟩
            have HC5 := Lib.hid (HC4.out.ofBelow hb5)
            have HBK5 := Lib.hid (HBK4.out.chg0 ((Chg.refl [] w4).ofBelow hb5))
            clear hb5
            go_wp2_with fail
            refine (apart_any HBK5.out).mono ?_
            rintro e w6 ⟨rfl, S, hS, hSb⟩
            go_wp2_with fail
            go_ret
            exact ⟨rfl, (HC5.out.step hS (fun g hg => .inr (hSb g hg))).below (Nat.le_refl _) (by simp)⟩
        case pos =>
          obtain ⟨wo, rfl⟩ : ∃ wo : World, wo = wr := ⟨_, rfl⟩
          have hltN : ∀ g ∈ bookBlks B N, g < wo.heap.size ∧ w.heap.size ≤ g := fun g hg => HBK.out.ltN hg
          have HLTN := Lib.hid hltN
          clear hltN
          go_wp2_with fail
          refine (lentNums_any (HC.out.chg0 lawN HCW.out) (by omega) rfl rfl).mono ?_
          rintro e w3 ⟨gl, lcap, rfl, hLent, hgl, hC3⟩
          have HLE := Lib.hid hLent
          have HC3 := Lib.hid hC3
          have hs3 := hC3.size
          clear hLent hC3
          go_wp2_with fail
          refine (cuts_tell (HIN.out.chg0 (HCW.out.trans HC3.out)).row (by omega) lc hlc HCE.out HX.out HNN.out).mono ?_
          rintro e w4 ⟨aa, ac, R, rfl, hRl, hRm, hA, hC4⟩
          have HRL := Lib.hid hRl
          have HRM := Lib.hid hRm
          have HA := Lib.hid hA
          have HC4 := Lib.hid hC4
          have hs4 := hC4.size
          clear hRl hRm hA hC4
          go_wp2_with fail
          refine (rcuts_tell ((HXR.out.chg (HC3.out.trans HC4.out) (by simp)).row (by omega)) (by omega) xc HXR.out.cap_ge HCE.out HX.out HNN.out).mono ?_
          rintro e w5 ⟨ba, bc, R', rfl, hRl, hRm, hB5, hC5⟩
          have HRL' := Lib.hid hRl
          have HRM' := Lib.hid hRm
          have HB5 := Lib.hid hB5
          have hs5 := hC5.size
          have HLE5 := Lib.hid ((HLE.out.chg0 HC4.out).chg0 hC5)
          have HA5 := Lib.hid (HA.out.chg0 hC5)
          have HC35 : Hid (Chg [] wo w5) := Lib.hid ((HC3.out.trans HC4.out).trans hC5)
          have HBK5 := Lib.hid (HBK.out.chg0 HC35.out)
          have HST : Hid (NumsInv w5 w5 w.heap.size B w3.heap.size N N M R 0) := Lib.hid (NumsInv.start HBK5.out (fun s hs g hg => by have := HBK.out.rowN s hs g hg; omega))
          clear hRl hRm hB5 hC5
          go_wp2_with fail
          go_loopg [13] n (fun q s13 wx => ∃ (i : Nat) (N' : Part Int), i ≤ n ∧ q = n - i ∧ s13 = .int .i64 i ∧ NumsInv w5 wx w.heap.size B w3.heap.size N N' M R i)
          case atStart => exact ⟨0, N, Nat.zero_le _, rfl, rfl, HST.out⟩
          case round =>
            obtain ⟨i, N', hi, rfl, rfl, hInv⟩ := hrel
            have HV := Lib.hid hInv
            have hsx := hInv.chg.size
            clear hInv HST
            by_cases hlt : i < n
            case pos =>
              have hiR : i < R.length := by rw [HRL.out]; exact hlt
              have hiR' : i < R'.length := by rw [HRL'.out]; exact hlt
              have hAx := HA5.out.up HV.out.chg (fun g hg => by have := (HLTN.out g hg).1; omega)
              have hBx := HB5.out.up HV.out.chg (fun g hg => by have := (HLTN.out g hg).1; omega)
              obtain ⟨ga, hga, va, oa⟩ := hAx.get hiR
              obtain ⟨gb, hgb, vb, ob⟩ := hBx.get hiR'
              subst hga
              subst hgb
              have hrows := hAx.rows _ (getD_mem hiR)
              have hCC : (R'.getD i default).C = (R.getD i default).C := by
                have h1 : R'.map Row1.C = R.map Row1.C := HRM'.out.trans HRM.out.symm
                have h2 := congrArg (fun l : List (List Int) => l.getD i []) h1
                simpa [List.getD_eq_getElem?_getD, List.getElem?_eq_getElem hiR, List.getElem?_eq_getElem hiR'] using h2
              have hsmall : (R.getD i default).C.length ≤ 3000 := HXS.out _ (by rw [← HRM.out]; exact List.mem_map_of_mem (getD_mem hiR))
              have hap : ∀ j, j < i → j < R.length → blkOf (R.getD j default).a ≠ blkOf (R.getD i default).a := fun j h1 h2 => uu_apart HA.out.apart h2 hiR (by omega)
              have hnext : ∀ (N2 : Part Int) (wy : World), (N2.R = N'.R ∨ N2.R = N'.R ++ [(R.getD i default).lst]) → BookIs wy w.heap.size B N2 M → Chg (bookBlks B N') wr wy → (∀ g, blkOf N2.a = some g → blkOf N'.a = some g ∨ wr.heap.size ≤ g) → (∀ g, blkOf N2.a' = some g → blkOf N'.a' = some g ∨ wr.heap.size ≤ g) → NumsInv w5 wy w.heap.size B w3.heap.size N N2 M R (i + 1) :=
                fun N2 wy h1 h2 h3 h4 h5 => HV.out.next hiR h1 h2 h3 h4 h5
              have hget6 : ∀ wy, Chg (bookBlks B N) w5 wy → wy.cell? ⟨ga, i, none⟩ = some (R.getD i default).val ∧ wy.cell? ⟨gb, i, none⟩ = some (R'.getD i default).val ∧ Own kN wy (R.getD i default).a (R.getD i default).cap (R.getD i default).C ∧ Own kN wy (R'.getD i default).a (R'.getD i default).cap (R'.getD i default).C := fun wy hc => by
                obtain ⟨g1, q1, v1, p1⟩ := (HA5.out.up hc (fun g hg => by have := (HLTN.out g hg).1; omega)).get hiR
                obtain ⟨g2, q2, v2, p2⟩ := (HB5.out.up hc (fun g hg => by have := (HLTN.out g hg).1; omega)).get hiR'
                cases q1
                cases q2
                exact ⟨v1, v2, p1, p2⟩
              generalize R.getD i default = r at va oa hrows hCC hsmall hap hnext hget6
              generalize R'.getD i default = r' at vb ob hCC hget6
              obtain ⟨ra, rc, rC⟩ := r
              obtain ⟨ra', rc', rC'⟩ := r'
              simp only at hCC
              subst hCC
              simp only [Row1.val] at va vb hget6
              simp only at oa hrows hsmall hap hnext
              have HRN : Hid (∀ s ∈ N'.R, ∀ g, blkOf s.a = some g → blkOf ra ≠ some g) := Lib.hid (fun s hs g hg e => by
                rcases HV.out.rows s hs with h | ⟨j, hj, hjl, rfl⟩
                · have h1 := h g hg
                  have h2 := hrows g e
                  omega
                · exact hap j hj hjl (hg.trans e.symm))
              have HRB : Hid (∀ g, blkOf ra = some g → w.heap.size ≤ g) := Lib.hid (fun g hg => by have := hrows g hg; omega)
              have OA := Lib.hid oa
              have HNEXT := Lib.hid hnext
              have HGET := Lib.hid hget6
              have e1 : (0 : Int) ≤ (i : Int) := by omega
              have e2 : (i : Int) < (n : Int) := by omega
              clear hAx hBx oa ob hrows hap hnext hget6 hiR hiR'
              go_wp2_with fail
              refine (bookNums_any HV.out.book (by omega) (r := ⟨ra, rc, rC'⟩) OA.out HRN.out HRB.out (by simp only; omega)).mono ?_
              rintro e w6 ⟨rfl, N2, hN2, hBk6, hC6, hna, hna'⟩
              have HV6 := Lib.hid (HNEXT.out N2 w6 hN2 hBk6 hC6 hna hna')
              obtain ⟨v1, v2, p1, p2⟩ := HGET.out w6 HV6.out.chg
              have P1 := Lib.hid p1
              have P2 := Lib.hid p2
              clear hN2 hBk6 hC6 hna hna' p1 p2 va vb
              go_wp2_with fail
              go_region_held3 (fun w' => w'.cell? ⟨ga, i, none⟩ = some (.slice ra rC'.length rc) ∧ w'.cell? ⟨gb, i, none⟩ = some (.slice ra' rC'.length rc'))
                (first | (refine ⟨(hC7.cell (lt_of_cell v1) (by simp)).trans v1, (hC7.cell (lt_of_cell v2) (by simp)).trans v2⟩) | go_keep)
                (first | (go_at_call 11; refine (sameN_yes ((P1.out.rd lawN).chg0 lawN (Chg.refl [] w6).drew) ((P2.out.rd lawN).chg0 lawN (Chg.refl [] w6).drew) (by omega) rc rc').mono ?_; rintro e w7 ⟨rfl, hC8⟩; have hC7 := ((Chg.refl [] w6).drew).trans hC8) | (fail))
              all_goals
                have HV7 := Lib.hid (HV6.out.chg0 hC7)
                go_wp2_with fail
                go_roundg (n - (i + 1))
                case measure => omega
                case rel => exact ⟨i + 1, N2, by omega, rfl, by go_num, HV7.out⟩
            case neg =>
              obtain rfl : i = n := by omega
              have hCx : Chg [] w wr := (HCW.out.trans HC35.out).step HV.out.chg (fun g hg => .inr (HLTN.out g hg).2)
              have HCX := Lib.hid hCx
              have HLX := Lib.hid (HLE5.out.chg HV.out.chg (fun hm => by have := (HLTN.out gl hm).1; omega))
              have HXX := Lib.hid ((HXR.out.chg HC35.out (by simp)).chgT HV.out.chg (fun g cur hB => HBK5.out.otherN hB (by decide) (by decide)))
              have hroom := HLX.out.room
              clear hCx
              go_wp2_with fail
              refine (play_tell (HIN.out.chg0 HCX.out).row (HIN.out.chg0 HCX.out).lies (by omega) lc hlc (HLX.out.nums HC.out.1 (by omega)) lcap rfl (by omega) HOK.out HI.out).mono ?_
              rintro e w8 ⟨da, dc, rfl, hD, hDn, hC8⟩
              have HD := Lib.hid hD
              have HDN := Lib.hid hDn
              have HC8 := Lib.hid hC8
              have hs8 := hC8.size
              clear hD hDn hC8
              go_wp2_with fail
              refine (rplay_tell ((HXX.out.chg HC8.out (by simp)).row (by omega)) (HIN.out.chg0 (HCX.out.trans HC8.out)).fit (by omega) xc ((HC.out.chg0 lawN (HCX.out.trans HC8.out)).nums (by omega)) cc rfl HOK.out HI.out).mono ?_
              rintro e w9 ⟨ha, hcp, rfl, hH, hIl, hC9⟩
              have HH := Lib.hid hH
              have HC9 := Lib.hid hC9
              have hs9 := hC9.size
              have HBK9 := Lib.hid (HV.out.book.chg0 (HC8.out.trans HC9.out))
              have HD9 := Lib.hid (HD.out.chg HC9.out (by simp))
              have HRN : Hid (∀ s ∈ M.R, ∀ g, blkOf s.a = some g → blkOf da ≠ some g) := Lib.hid (fun s hs g hg e => by
                have h1 := HV.out.book.rowM s hs g hg
                have h2 := HDN.out g e
                omega)
              have HRB : Hid (∀ g, blkOf da = some g → w.heap.size ≤ g) := Lib.hid (fun g hg => by have := HDN.out g hg; omega)
              clear hH hC9
              go_wp2_with fail
              refine (bookImages_any HBK9.out (by omega) (r := ⟨da, dc, I⟩) HD9.out HRN.out HRB.out (by simp only; omega)).mono ?_
              rintro e w10 ⟨rfl, M2, hM2, hBk10, hC10, _, _⟩
              have HBK10 := Lib.hid hBk10
              have HC10 := Lib.hid hC10
              have HD10 := Lib.hid (HD9.out.chg HC10.out (fun g hg => by
                obtain ⟨c, hc⟩ := HD9.out.blk hg
                exact HBK9.out.otherM hc (by decide) (by decide)))
              have HH10 := Lib.hid (HH.out.chg HC10.out (fun g hg => by
                obtain ⟨c, hc⟩ := HH.out.blk hg
                exact HBK9.out.otherM hc (by decide) (by decide)))
              have HLX10 := Lib.hid ((HLX.out.chg0 (HC8.out.trans HC9.out)).chg HC10.out (fun hm => by have := (HBK.out.ltM hm).1; omega))
              have HCW10 : Hid (Chg [] w w10) := Lib.hid (((HCX.out.trans HC8.out).trans HC9.out).step HC10.out (fun g hg => .inr (HBK9.out.ltM hg).2))
              have HX10 := Lib.hid ((HXX.out.chg (HC8.out.trans HC9.out) (by simp)).chgT HC10.out (fun g cur hB => HBK9.out.otherM hB (by decide) (by decide)))
              have HCC10 := Lib.hid (HC.out.chg0 lawN HCW10.out)
              clear hM2 hBk10 hC10
              go_wp2_with fail
              refine (sameM_yes (HD10.out.rd lawM) (HH10.out.rd lawM) (by omega) dc hcp).mono ?_
              rintro e w11 ⟨rfl, hC11⟩
              have HC11 := Lib.hid hC11
              clear hC11
              go_wp2_with fail
              refine (staysNums_any (HLX10.out.chg0 HC11.out) ((HCC10.out.chg0 lawN HC11.out).rd) (by omega) rfl cc).mono ?_
              rintro e w12 ⟨rfl, hC12⟩
              have HC12 := Lib.hid (HC11.out.trans hC12)
              clear hC12
              go_wp2_with fail
              go_roundg (2 - (k + 1))
              case measure => omega
              case rel => exact ⟨k + 1, N', M2, by omega, rfl, by go_num, HBK10.out.chg0 HC12.out, HX10.out.chg HC12.out (by simp), HCW10.out.trans HC12.out⟩

end Go.Proofs.YteokjobkjmibfaaGreat
