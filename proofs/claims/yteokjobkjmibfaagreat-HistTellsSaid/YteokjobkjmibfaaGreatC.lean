/- The functions greatest and alone of the package hist. Condition: the events can be read. -/
import Derived.Test.YteokjobkjmibfaaGreatB
import Derived.Handy
import Derived.Laws.Rows
namespace Go.Proofs.YteokjobkjmibfaaGreat
open Go.RowKit Go.Maps

/-- the greatest number of an epoch's commits -/
def gstep (n ep : Int) (m : Int) (x : Ev) : Int := if x.kind = 1 ∧ x.node = n ∧ x.epoch = ep then max m x.lsn else m
def Ev.grt (e : Ev) (L : List Ev) : Ev := if 0 < e.lsn then e else { e with lsn := L.foldl (gstep e.node e.epoch) e.lsn }

theorem gstep_range {n ep m : Int} {x : Ev} (h : 0 ≤ m ∧ m ≤ 18446744073709551615) (hx : wfu64 x.lsn) : 0 ≤ gstep n ep m x ∧ gstep n ep m x ≤ 18446744073709551615 := by
  have := rangeu64 hx
  unfold gstep
  split <;> omega

set_option maxHeartbeats 1000000 in
set_option maxRecDepth 1000000 in
theorem greatest_any {w : World} {a : Option Addr} {L : List Ev} (h : EvRow w a L) (e : Ev) (he : e.ok) (cap : Nat) :
    Calls Tryz.prog 26 #[e.val, .slice a L.length cap] w fun x w' => x = .returned (e.grt L).val ∧ Below w.heap.size w w' := by
  have hbig := h.2.1
  have hoks := h.1
  obtain ⟨ek, en, ee, el, ers, ews, era, erc, ewa, ewc⟩ := e
  obtain ⟨ok1, ok2, ok3, ok4⟩ := he
  simp only at ok1 ok2 ok3 ok4
  have r4 := rangeu64 ok4
  by_cases hl : 0 < el
  · have hg : Ev.grt ⟨ek, en, ee, el, ers, ews, era, erc, ewa, ewc⟩ L = ⟨ek, en, ee, el, ers, ews, era, erc, ewa, ewc⟩ := by unfold Ev.grt; rw [if_pos hl]
    rw [hg]
    clear hg
    simp only [Ev.val]
    go_enter Tryz.func26, Tryz.ntmps26
    go_wp2_with fail
    go_returns
    exact ⟨rfl, ((Below.refl _ w).alloc (Nat.le_refl _) _).alloc (by simp) _⟩
  · have hl0 : el = 0 := by omega
    subst hl0
    have hg : Ev.grt ⟨ek, en, ee, 0, ers, ews, era, erc, ewa, ewc⟩ L = ⟨ek, en, ee, L.foldl (gstep en ee) 0, ers, ews, era, erc, ewa, ewc⟩ := by unfold Ev.grt; rw [if_neg (by simp)]
    rw [hg]
    have HG := Lib.hid hg
    clear hg
    simp only [Ev.val]
    go_enter Tryz.func26, Tryz.ntmps26
    go_wp2_with fail
    have hC0 : Chg [] w ((w.alloc (.cells #[.int .i64 ek, .int .i64 en, .int .u64 ee, .int .u64 0, .slice era ers.length erc, .slice ewa ews.length ewc] 66)).alloc (.cells #[.int .i64 0, .int .i64 0, .int .u64 0, .int .u64 0, .slice none 0 0, .slice none 0 0] 66)) := ((Chg.refl _ w).alloc _).alloc _
    have hB0 : Blk ((w.alloc (.cells #[.int .i64 ek, .int .i64 en, .int .u64 ee, .int .u64 0, .slice era ers.length erc, .slice ewa ews.length ewc] 66)).alloc (.cells #[.int .i64 0, .int .i64 0, .int .u64 0, .int .u64 0, .slice none 0 0, .slice none 0 0] 66)) w.heap.size
      #[.int .i64 ek, .int .i64 en, .int .u64 ee, .int .u64 0, .slice era ers.length erc, .slice ewa ews.length ewc] 66 := (Blk.new w _ 66).alloc _
    have hR0 : Blk ((w.alloc (.cells #[.int .i64 ek, .int .i64 en, .int .u64 ee, .int .u64 0, .slice era ers.length erc, .slice ewa ews.length ewc] 66)).alloc (.cells #[.int .i64 0, .int .i64 0, .int .u64 0, .int .u64 0, .slice none 0 0, .slice none 0 0] 66)) (w.heap.size + 1)
      #[.int .i64 0, .int .i64 0, .int .u64 0, .int .u64 0, .slice none 0 0, .slice none 0 0] 66 := by
      have := Blk.new (w.alloc (.cells #[.int .i64 ek, .int .i64 en, .int .u64 ee, .int .u64 0, .slice era ers.length erc, .slice ewa ews.length ewc] 66)) #[.int .i64 0, .int .i64 0, .int .u64 0, .int .u64 0, .slice none 0 0, .slice none 0 0] 66
      rw [World.size_alloc] at this
      exact this
    go_loopg [13] L.length (fun q s13 wr => ∃ (k : Nat) (m : Int), k ≤ L.length ∧ q = L.length - k ∧ s13 = .int .i64 k ∧ m = (L.take k).foldl (gstep en ee) 0 ∧ (0 ≤ m ∧ m ≤ 18446744073709551615) ∧
      Chg [] w wr ∧ Blk wr w.heap.size #[.int .i64 ek, .int .i64 en, .int .u64 ee, .int .u64 m, .slice era ers.length erc, .slice ewa ews.length ewc] 66 ∧ Blk wr (w.heap.size + 1) #[.int .i64 0, .int .i64 0, .int .u64 0, .int .u64 0, .slice none 0 0, .slice none 0 0] 66)
    case atStart => exact ⟨0, 0, Nat.zero_le _, rfl, rfl, rfl, by omega, hC0, hB0, hR0⟩
    case round =>
      obtain ⟨k, m, hk, rfl, rfl, hm, hrange, hC, hB, hR⟩ := hrel
      clear hC0 hB0 hR0
      have b0 := hB.cell 0 rfl
      have b1 := hB.cell 1 rfl
      have b2 := hB.cell 2 rfl
      have b3 := hB.cell 3 rfl
      have b4 := hB.cell 4 rfl
      have b5 := hB.cell 5 rfl
      by_cases hlt : k < L.length
      case neg =>
        obtain rfl : k = L.length := by omega
        rw [List.take_length] at hm
        have HM := Lib.hid hm
        clear hm
        have r0 := hR.cell 0 rfl
        have r1 := hR.cell 1 rfl
        have r2 := hR.cell 2 rfl
        have r3 := hR.cell 3 rfl
        have r4 := hR.cell 4 rfl
        have r5 := hR.cell 5 rfl
        have q0 := hR.free 0
        have q1 := hR.free 1
        have q2 := hR.free 2
        have q3 := hR.free 3
        have q4 := hR.free 4
        have q5 := hR.free 5
        go_wp2_with fail
        have hF : Blk ((((((wr.setCell ⟨w.heap.size + 1, 0, none⟩ (.int .i64 ek)).setCell ⟨w.heap.size + 1, 1, none⟩ (.int .i64 en)).setCell ⟨w.heap.size + 1, 2, none⟩ (.int .u64 ee)).setCell ⟨w.heap.size + 1, 3, none⟩ (.int .u64 m)).setCell ⟨w.heap.size + 1, 4, none⟩ (.slice era ers.length erc)).setCell ⟨w.heap.size + 1, 5, none⟩ (.slice ewa ews.length ewc))
          (w.heap.size + 1) #[.int .i64 ek, .int .i64 en, .int .u64 ee, .int .u64 m, .slice era ers.length erc, .slice ewa ews.length ewc] 66 := (((((hR.set 0 _).set 1 _).set 2 _).set 3 _).set 4 _).set 5 _
        try simp only [Exit.inBlock, Exit.then]
        refine bodyPost_ret (results_cell_row rfl _ _ (w.heap.size + 1) 66 _ (0, 0) _ rfl hF Tryz.underlying66 rfl (by kernel_rfl)) rfl ?_
        refine ⟨by rw [← HM.out], ?_⟩
        exact ((((((hC.setCell ⟨w.heap.size + 1, 0, none⟩ (.inr (by simp)) (.int .i64 ek)).setCell ⟨w.heap.size + 1, 1, none⟩ (.inr (by simp)) (.int .i64 en)).setCell ⟨w.heap.size + 1, 2, none⟩ (.inr (by simp)) (.int .u64 ee)).setCell ⟨w.heap.size + 1, 3, none⟩ (.inr (by simp)) (.int .u64 m)).setCell ⟨w.heap.size + 1, 4, none⟩ (.inr (by simp)) (.slice era ers.length erc)).setCell ⟨w.heap.size + 1, 5, none⟩ (.inr (by simp)) (.slice ewa ews.length ewc)).below (Nat.le_refl _) (by simp)
      case pos =>
        have hEr := h.chg hC (by simp)
        obtain ⟨b, o, rfl, hc, hok⟩ := hEr.at_ hlt
        obtain ⟨d0, d1, d2, d3, d4, d5⟩ := hc k hlt
        have hst : (L.take (k + 1)).foldl (gstep en ee) 0 = gstep en ee ((L.take k).foldl (gstep en ee) 0) (L.getD k default) := by
          rw [take_step hlt, List.foldl_append]; rfl
        rw [← hm] at hst
        have hrange2 := gstep_range (n := en) (ep := ee) (x := L.getD k default) hrange hok.2.2.2
        generalize L.getD k default = x at d0 d1 d2 d3 d4 d5 hst hok hrange2
        obtain ⟨xk, xn, xe, xl, xrs, xws, xra, xrc, xwa, xwc⟩ := x
        simp only at d0 d1 d2 d3 d4 d5
        have r3 := rangeu64 hok.2.2.2
        simp only at r3
        have hgl := hB.lt
        have e3 := hB.free 3
        have hne : ¬ w.heap.size + 1 = w.heap.size := by omega
        clear hm hok h hEr hc
        by_cases q1 : xk = 1
        case neg =>
          have hb : gstep en ee m ⟨xk, xn, xe, xl, xrs, xws, xra, xrc, xwa, xwc⟩ = m := by unfold gstep; rw [if_neg (fun h => q1 h.1)]
          rw [hb] at hst hrange2
          have HST := Lib.hid hst
          have HR := Lib.hid hrange2
          clear hst hb hrange2
          go_wp2_with fail
          go_roundg (L.length - (k + 1))
          case measure => omega
          case rel => exact ⟨k + 1, m, by omega, rfl, by go_num, HST.out.symm, HR.out, hC.alloc _, hB.alloc _, hR.alloc _⟩
        case pos =>
        by_cases q2 : xn = en
        case neg =>
          have hb : gstep en ee m ⟨xk, xn, xe, xl, xrs, xws, xra, xrc, xwa, xwc⟩ = m := by unfold gstep; rw [if_neg (fun h => q2 h.2.1)]
          rw [hb] at hst hrange2
          have HST := Lib.hid hst
          have HR := Lib.hid hrange2
          clear hst hb hrange2
          go_wp2_with fail
          go_roundg (L.length - (k + 1))
          case measure => omega
          case rel => exact ⟨k + 1, m, by omega, rfl, by go_num, HST.out.symm, HR.out, hC.alloc _, hB.alloc _, hR.alloc _⟩
        case pos =>
        by_cases q3 : xe = ee
        case neg =>
          have hb : gstep en ee m ⟨xk, xn, xe, xl, xrs, xws, xra, xrc, xwa, xwc⟩ = m := by unfold gstep; rw [if_neg (fun h => q3 h.2.2)]
          rw [hb] at hst hrange2
          have HST := Lib.hid hst
          have HR := Lib.hid hrange2
          clear hst hb hrange2
          go_wp2_with fail
          go_roundg (L.length - (k + 1))
          case measure => omega
          case rel => exact ⟨k + 1, m, by omega, rfl, by go_num, HST.out.symm, HR.out, hC.alloc _, hB.alloc _, hR.alloc _⟩
        case pos =>
          have hb : gstep en ee m ⟨xk, xn, xe, xl, xrs, xws, xra, xrc, xwa, xwc⟩ = max m xl := by unfold gstep; rw [if_pos ⟨q1, q2, q3⟩]
          rw [hb] at hst hrange2
          have HST := Lib.hid hst
          have HR := Lib.hid hrange2
          clear hst hb hrange2
          go_wp2_with fail
          go_roundg (L.length - (k + 1))
          case measure => omega
          case rel => exact ⟨k + 1, max m xl, by omega, rfl, by go_num, HST.out.symm, HR.out, (hC.setCell ⟨w.heap.size, 3, none⟩ (.inr (Nat.le_refl _)) _).alloc _, (hB.set 3 _).alloc _, (hR.setOther ⟨w.heap.size, 3, none⟩ hne _).alloc _⟩

/-! ### alone -/
theorem EvRow.chgN {w w' : World} {a : Option Addr} {L : List Ev} (h : EvRow w a L) {S : List Nat} (hc : Chg S w w') (hn : ∀ g, g < w.heap.size → g ∉ S) : EvRow w' a L := by
  cases L with
  | nil => exact ⟨by simp, by simp, .inl rfl⟩
  | cons e r =>
    obtain ⟨b, o, rfl, hcs, _⟩ := h.at_ (k := 0) (by simp)
    exact h.chg hc (fun g hg => by cases hg; exact hn _ (lt_of_cell (hcs 0 (by simp)).1))

theorem ImgsAt.chgN {w w' : World} {a : Option Addr} {L : List Img} (h : ImgsAt w a L) {S : List Nat} (hc : Chg S w w') (hn : ∀ g, g < w.heap.size → g ∉ S) : ImgsAt w' a L := by
  cases L with
  | nil => exact ⟨by simp, by simp, .inl rfl⟩
  | cons e r => exact h.chg hc (fun g hg => hn _ (h.lt (by simp) g hg))
theorem Ev.lies.chgN {w w' : World} {e : Ev} (h : e.lies w) {S : List Nat} (hc : Chg S w w') (hn : ∀ g, g < w.heap.size → g ∉ S) : e.lies w' := ⟨h.1.chgN hc hn, h.2.chgN hc hn⟩
/-- what a list of commits makes of an array, and whether each is right -/
def aloneStep (p : Arr × Bool) (e : Ev) : Arr × Bool := (p.1.write e.ws, p.2 && e.rs.all p.1.right)
def alone (L : List Ev) : Arr × Bool := L.foldl aloneStep (fun _ => none, true)

set_option maxHeartbeats 1000000 in
set_option maxRecDepth 1000000 in
theorem alone_any {w : World} {a : Option Addr} {L : List Ev} (h : EvRow w a L) (hl : ∀ e ∈ L, e.lies w) (hlen : L.length ≤ 500) (cap : Nat) :
    Calls Tryz.prog 29 #[.slice a L.length cap] w fun x w' => (∃ bm, x = .returned (.tuple #[.map (some bm), .bool (alone L).2]) ∧ w.heap.size ≤ bm ∧ SMap w' bm 500000000 (alone L).1) ∧ Below w.heap.size w w' := by
  have hw0 := SMap.made w
  have hC0 : Chg [w.heap.size] w (w.alloc (.map #[] 0)) := (Chg.refl _ w).alloc _
  have hmm := @run_makeMap Tryz.prog
  go_enter Tryz.func29, Tryz.ntmps29
  go_wp2_with fail
  go_loopg [5, 11] L.length (fun q s5 s11 wr => ∃ (k n : Nat), k ≤ L.length ∧ q = L.length - k ∧ s11 = .int .i64 k ∧ s5 = .bool (alone (L.take k)).2 ∧ n ≤ k * 1000000 ∧
      SMap wr w.heap.size n (alone (L.take k)).1 ∧ Chg [w.heap.size] w wr)
  case atStart => exact ⟨0, 0, Nat.zero_le _, rfl, rfl, rfl, Nat.le_refl _, hw0, hC0⟩
  case round =>
    obtain ⟨k, n, hk, rfl, rfl, rfl, hn, hM, hC⟩ := hrel
    clear hC0 hw0
    by_cases hlt : k < L.length
    case neg =>
      obtain rfl : k = L.length := by omega
      rw [List.take_length] at hM
      go_wp2_with fail
      go_ret2
      exact ⟨⟨_, by rw [List.take_length]; rfl, Nat.le_refl _, hM.mono (by omega)⟩, hC.below (Nat.le_refl _) (by simp)⟩
    case pos =>
      have hw : ∀ g, g < w.heap.size → g ∉ [w.heap.size] := fun g hg => by simp; omega
      have hEr := h.chgN hC hw
      have hEl := (hl _ (getD_mem hlt)).chgN hC hw
      obtain ⟨b, o, rfl, hc, hok⟩ := hEr.at_ hlt
      obtain ⟨d0, d1, d2, d3, d4, d5⟩ := hc k hlt
      have hst : alone (L.take (k + 1)) = aloneStep (alone (L.take k)) (L.getD k default) := by
        unfold alone
        rw [take_step hlt, List.foldl_append]; rfl
      generalize L.getD k default = x at d0 d1 d2 d3 d4 d5 hst hok hEl
      obtain ⟨xk, xn, xe, xl, xrs, xws, xra, xrc, xwa, xwc⟩ := x
      simp only at d0 d1 d2 d3 d4 d5
      obtain ⟨hEl1, hEl2⟩ := hEl
      simp only at hEl1 hEl2
      obtain ⟨f, ok, hp⟩ : ∃ f ok, alone (L.take k) = (f, ok) := ⟨_, _, rfl⟩
      rw [hp] at hst hM ⊢
      simp only [aloneStep] at hst
      have HST := Lib.hid hst
      clear hst hp hok
      have hM1 := hM.alloc (.cells #[.int .i64 xk, .int .i64 xn, .int .u64 xe, .int .u64 xl, .slice xra xrs.length xrc, .slice xwa xws.length xwc] 66)
      have hC1 : Chg [] wr (wr.alloc (.cells #[.int .i64 xk, .int .i64 xn, .int .u64 xe, .int .u64 xl, .slice xra xrs.length xrc, .slice xwa xws.length xwc] 66)) := (Chg.refl _ wr).alloc _
      have hwl := hEl2.2.1
      cases ok
      · have hW := write_any hM1 (hEl2.chgN hC1 (by simp)) (by omega) xwc
        simp only at hW
        go_wp2_with fail
        refine hW.mono ?_
        rintro e w' ⟨rfl, hM2, hC2⟩
        go_wp2_with fail
        go_roundg (L.length - (k + 1))
        case measure => omega
        case rel => exact ⟨k + 1, n + xws.length, by omega, rfl, by go_num, by rw [HST.out]; rfl, by omega, by rw [HST.out]; exact hM2, (hC.alloc _).step hC2 (by simp)⟩
      · have hR := reads_any hM1 (hEl1.chgN hC1 (by simp)) xrc
        go_wp2_with fail
        refine hR.mono ?_
        rintro e w1 ⟨rfl, hb⟩
        have hC2 : Chg [] wr w1 := hC1.ofBelow hb
        have hM2 := hM1.chg ((Chg.refl [] _).ofBelow hb) (by simp)
        have k5 : w1.cell? ⟨wr.heap.size, 5, none⟩ = some (.slice xwa xws.length xwc) := by rw [hb.cell (p := ⟨wr.heap.size, 5, none⟩) (by simp)]; simp
        have hW := write_any hM2 (hEl2.chgN hC2 (by simp)) (by omega) xwc
        generalize xrs.all f.right = rg at HST ⊢
        go_wp2_with fail
        refine hW.mono ?_
        rintro e w' ⟨rfl, hM3, hC3⟩
        go_wp2_with fail
        go_roundg (L.length - (k + 1))
        case measure => omega
        case rel => exact ⟨k + 1, n + xws.length, by omega, rfl, by go_num, by rw [HST.out]; simp, by omega, by rw [HST.out]; exact hM3, (hC.step hC2 (by simp)).step hC3 (by simp)⟩

end Go.Proofs.YteokjobkjmibfaaGreat
