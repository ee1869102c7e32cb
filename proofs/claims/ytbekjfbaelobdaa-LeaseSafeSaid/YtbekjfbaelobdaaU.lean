/- What the clock (New, Step, Now, Kept) comes to in memory. Conditions: its time is at most a million. -/
import Derived.Test.YtbekjfbaelobdaaT
import Derived.Deep.DeepCutAuto
import Derived.Deep.LoopGhost
namespace Go.Proofs.Ytbekjfbaelobdaa
open Go.RowKit Go.Maps

structure CS where
  now : Int
  real : Int
  L : List Int
  broken : Bool

def CS.put (s : CS) (x : Int) : List Int := (if s.L.length = 8 then s.L.tail else s.L) ++ [min (max x 0) 8]
def CS.bad (l : List Int) : Bool := decide (l.length = 8) && (decide (l.sum < 7) || decide (9 < l.sum))
def CS.step (s : CS) (x : Int) : CS := { now := s.now + min (max x 0) 8, real := s.real + 1, L := s.put x, broken := s.broken || CS.bad (s.put x) }
def CS.ok (s : CS) : Prop := 0 ≤ s.now ∧ s.now ≤ 1000000 ∧ 0 ≤ s.real ∧ s.real ≤ 1000000 ∧ s.L.length ≤ 8 ∧ ∀ x ∈ s.L, 0 ≤ x ∧ x ≤ 8

/-- a clock whose ring is there -/
def ClockB (w : World) (cb rb : Nat) (g : Option Nat) (s : CS) : Prop :=
  Blk w cb #[.int .i64 s.now, .int .i64 s.real, .pointer (some ⟨rb, 0, none⟩), .bool s.broken] 58 ∧ RingAt w rb g s.L ∧ cb ∉ foot rb g

/-- a clock; F: its blocks -/
def ClockAt (w : World) (cb : Nat) (F : List Nat) (s : CS) : Prop :=
  (Blk w cb #[.int .i64 s.now, .int .i64 s.real, .pointer none, .bool s.broken] 58 ∧ s.L = [] ∧ F = [cb]) ∨
  ∃ rb g, ClockB w cb rb g s ∧ F = cb :: foot rb g

theorem ClockB.chg {w w' : World} {cb rb : Nat} {g : Option Nat} {s : CS} (h : ClockB w cb rb g s) {S : List Nat} (hc : Chg S w w') (hn : ∀ k ∈ cb :: foot rb g, k ∉ S) : ClockB w' cb rb g s :=
  ⟨h.1.chg hc (hn cb (by simp)), h.2.1.chg hc (fun k hk => hn k (List.mem_cons_of_mem _ hk)), h.2.2⟩
theorem ClockAt.chg {w w' : World} {cb : Nat} {F : List Nat} {s : CS} (h : ClockAt w cb F s) {S : List Nat} (hc : Chg S w w') (hn : ∀ k ∈ F, k ∉ S) : ClockAt w' cb F s := by
  rcases h with ⟨h1, h2, rfl⟩ | ⟨rb, g, h1, rfl⟩
  · exact .inl ⟨h1.chg hc (hn cb (by simp)), h2, rfl⟩
  · exact .inr ⟨rb, g, h1.chg hc hn, rfl⟩
theorem ClockAt.lt {w : World} {cb : Nat} {F : List Nat} {s : CS} (h : ClockAt w cb F s) : ∀ k ∈ F, k < w.heap.size := by
  rcases h with ⟨h1, h2, rfl⟩ | ⟨rb, g, h1, rfl⟩
  · intro k hk; simp at hk; subst hk; exact h1.lt
  · intro k hk
    rcases List.mem_cons.1 hk with rfl | hk
    · exact h1.1.lt
    · exact h1.2.1.lt k hk

theorem clockNew (w : World) : Calls Try.prog 20 #[] w fun e w' => e = .returned (.pointer (some ⟨w.heap.size, 0, none⟩)) ∧ ClockAt w' w.heap.size [w.heap.size] { now := 0, real := 0, L := [], broken := false } ∧ Chg [] w w' := by
  go_enter Try.func20, Try.ntmps20
  go_wp2
  go_ret
  exact ⟨rfl, .inl ⟨Blk.new w _ 58, rfl, rfl⟩, (Chg.refl _ w).alloc _⟩

theorem clockBlk {w : World} {cb : Nat} {F : List Nat} {s : CS} (h : ClockAt w cb F s) : ∃ v, Blk w cb #[.int .i64 s.now, .int .i64 s.real, v, .bool s.broken] 58 := by
  rcases h with ⟨h1, h2, rfl⟩ | ⟨rb, g, h1, rfl⟩
  · exact ⟨_, h1⟩
  · exact ⟨_, h1.1⟩

theorem clockNow {w : World} {cb : Nat} {F : List Nat} {s : CS} (h : ClockAt w cb F s) : Calls Try.prog 23 #[.pointer (some ⟨cb, 0, none⟩)] w fun e w' => e = .returned (.int .i64 s.now) ∧ w = w' := by
  obtain ⟨v, hb⟩ := clockBlk h
  have c0 := hb.cell 0 (by rfl)
  go_enter Try.func23, Try.ntmps23
  go_wp2
  go_ret
  exact ⟨rfl, rfl⟩

theorem clockKept {w : World} {cb : Nat} {F : List Nat} {s : CS} (h : ClockAt w cb F s) : Calls Try.prog 22 #[.pointer (some ⟨cb, 0, none⟩)] w fun e w' => e = .returned (.bool (!s.broken)) ∧ w = w' := by
  obtain ⟨v, hb⟩ := clockBlk h
  have c3 := hb.cell 3 (by rfl)
  go_enter Try.func22, Try.ntmps22
  go_wp2
  go_ret
  exact ⟨rfl, rfl⟩

/-- what holds behind the time's turn -/
def StepB (w : World) (cb rb : Nat) (g : Option Nat) (s : CS) (y : Int) (w' : World) : Prop :=
  ClockB w' cb rb g { s with now := s.now + y, real := s.real + 1 } ∧ Chg [cb] w w'

/-- what holds behind a call on the ring -/
def StepD (w : World) (cb rb : Nat) (F : List Nat) (s : CS) (w' : World) : Prop :=
  ∃ g, ClockB w' cb rb g s ∧ Chg F w w' ∧ ∀ k ∈ foot rb g, k ∈ F ∨ w.heap.size ≤ k

theorem stepD_of {w wd w' : World} {cb rb : Nat} {g : Option Nat} {F : List Nat} {s : CS} {L : List Int} (hC : ClockB wd cb rb g s) (hCh : Chg F w wd) (hf : ∀ k ∈ foot rb g, k ∈ F ∨ w.heap.size ≤ k) (hp : RingPost wd rb g L w') :
    StepD w cb rb F { s with L := L } w' := by
  obtain ⟨g', hR, hC2, hk⟩ := hp
  have hlt := hC.1.lt
  have hs := hCh.size
  refine ⟨g', ⟨hC.1.chg hC2 hC.2.2, hR, ?_⟩, hCh.step hC2 hf, ?_⟩
  · intro hm
    simp only [foot, List.mem_cons, Option.mem_toList] at hm
    rcases hm with rfl | hm
    · exact hC.2.2 (by simp [foot])
    · rcases hk cb hm with h | h
      · exact hC.2.2 h
      · omega
  · intro k hm
    simp only [foot, List.mem_cons, Option.mem_toList] at hm
    rcases hm with rfl | hm
    · exact hf k (by simp [foot])
    · rcases hk k hm with h | h
      · exact hf k h
      · right; omega

theorem tail_sum (l : List Int) (k : Nat) (h : k < l.length) : (l.take (k + 1)).sum = (l.take k).sum + l.getD k 0 := by
  rw [List.take_succ_eq_append_getElem h, List.sum_append]
  simp [List.getD, h]

theorem sum_range (l : List Int) (h : ∀ x ∈ l, 0 ≤ x ∧ x ≤ 8) : 0 ≤ l.sum ∧ l.sum ≤ 8 * l.length := by
  induction l with
  | nil => simp
  | cons a r ih =>
    have := ih (fun x hx => h x (List.mem_cons_of_mem _ hx))
    have := h a (by simp)
    simp only [List.sum_cons, List.length_cons]
    omega

theorem put_ok {s : CS} (h : s.ok) (x : Int) : (s.put x).length ≤ 8 ∧ 0 < (s.put x).length ∧ ∀ y ∈ s.put x, 0 ≤ y ∧ y ≤ 8 := by
  obtain ⟨_, _, _, _, h1, h2⟩ := h
  unfold CS.put
  by_cases h8 : s.L.length = 8
  · rw [if_pos h8]
    refine ⟨by simp; omega, by simp, fun y hy => ?_⟩
    rcases List.mem_append.1 hy with hy | hy
    · exact h2 y (List.mem_of_mem_tail hy)
    · simp at hy; omega
  · rw [if_neg h8]
    refine ⟨by simp; omega, by simp, fun y hy => ?_⟩
    rcases List.mem_append.1 hy with hy | hy
    · exact h2 y hy
    · simp at hy; omega

/-- what holds behind 'if c.last == nil { .. }' -/
def StepA (w : World) (cb : Nat) (F : List Nat) (s : CS) (w' : World) : Prop :=
  ∃ rb g, ClockB w' cb rb g s ∧ Chg F w w' ∧ (∀ k ∈ foot rb g, k ∈ F ∨ w.heap.size ≤ k) ∧ cb ∈ F

set_option maxHeartbeats 4000000 in
set_option maxRecDepth 1000000 in
theorem clockStep {w : World} {cb : Nat} {F : List Nat} {s : CS} (h : ClockAt w cb F s) (hs : s.ok) (x : Int) (x0 : -9223372036854775808 ≤ x) (x1 : x ≤ 9223372036854775807) :
    Calls Try.prog 21 #[.pointer (some ⟨cb, 0, none⟩), .int .i64 x] w fun e w' => e = .returned (.int .i64 (s.step x).now) ∧ ∃ F', ClockAt w' cb F' (s.step x) ∧ Chg F w w' ∧ ∀ k ∈ F', k ∈ F ∨ w.heap.size ≤ k := by
  obtain ⟨n0, n1, r0, r1, l8, hall⟩ := hs
  obtain ⟨p, b, hB, hpb, hp⟩ : ∃ (p : Option Addr) (b : Bool), Blk w cb #[.int .i64 s.now, .int .i64 s.real, .pointer p, .bool s.broken] 58 ∧ p.isNone = b ∧ ((b = true ∧ p = none ∧ s.L = [] ∧ F = [cb]) ∨ ∃ rb g, b = false ∧ p = some ⟨rb, 0, none⟩ ∧ ClockB w cb rb g s ∧ F = cb :: foot rb g) := by
    rcases h with ⟨h1, h2, rfl⟩ | ⟨rb, g, h1, rfl⟩
    · exact ⟨none, true, h1, rfl, .inl ⟨rfl, rfl, h2, rfl⟩⟩
    · exact ⟨_, false, h1.1, rfl, .inr ⟨rb, g, rfl, rfl, h1, rfl⟩⟩
  have HP := Lib.hid hp
  have c2 := hB.cell 2 (by rfl)
  have f2 := hB.free 2
  have hq : ∀ w : World, (binOp .eql 56 (.pointer p) (.pointer none)).run Try.prog w = .ok (.bool b) w := by
    intro w; rw [← hpb]; cases p <;> rfl
  clear hp hpb
  go_enter Try.func21, Try.ntmps21
  go_upto_if 14 with fail
  go_cut [] (fun wx => StepA w cb F s wx)
  case first =>
    clear hq
    have hp := HP.out
    clear HP
    rcases hp with ⟨rfl, rfl, hL, rfl⟩ | ⟨rb, g, rfl, rfl, hC, rfl⟩
    · have HL := Lib.hid hL
      clear hL
      go_wp2_with (go_at_call 33; refine (ringNew _).mono ?_; rintro e wx ⟨rfl, hR, hCx⟩; have hBx := hB.chg hCx (by simp); have c2x := hBx.cell 2 (by rfl); have f2x := hBx.free 2)
      go_meet
      have hlt := hB.lt
      refine ⟨w.heap.size, none, ⟨by simpa using hBx.set 2 (.pointer (some ⟨w.heap.size, 0, none⟩)), ?_, by simp [foot]; omega⟩, (hCx.mono (by simp)).setCell ⟨cb, 2, none⟩ (by simp) _, by simp [foot], by simp⟩
      rw [HL.out]
      exact hR.chg ((Chg.refl [cb] wx).setCell ⟨cb, 2, none⟩ (by simp) _) (by simp [foot]; omega)
    · go_wp2_with fail
      go_meet
      exact ⟨rb, g, hC, Chg.refl _ _, fun k hk => .inl (List.mem_cons_of_mem _ hk), by simp⟩
  case rest =>
    obtain ⟨rb, g, hC, hCh, hfoot, hcF⟩ := hcut
    clear c2 f2 hq hB HP h p b
    obtain ⟨y, hy, y0, y8⟩ : ∃ y, min (max x 0) 8 = y ∧ 0 ≤ y ∧ y ≤ 8 := ⟨_, rfl, by omega, by omega⟩
    have HY := Lib.hid hy
    clear hy
    go_upto_region 5 with fail
    go_cut [1] (fun s1 wx => s1 = .int .i64 y ∧ wc = wx)
    case first =>
      go_wp2_with fail
      all_goals (go_meet; exact ⟨by rw [← HY.out]; congr 1; omega, rfl⟩)
    case rest =>
      obtain ⟨rfl, rfl⟩ := hcut
      have c0 := hC.1.cell 0 (by rfl)
      have c1 := hC.1.cell 1 (by rfl)
      have f0 := hC.1.free 0
      have f1 := hC.1.free 1
      have e1 : IntKind.i64.wrap (s.now + y) = s.now + y := IntWalk.i64_in _ (by omega)
      have e2 : IntKind.i64.wrap (s.real + 1) = s.real + 1 := IntWalk.i64_in _ (by omega)
      have e3 : min (s.now + y) 4611686018427387904 = s.now + y := by omega
      have e4 : min (s.real + 1) 4611686018427387904 = s.real + 1 := by omega
      go_upto_region 6 with fail
      go_cut [] (fun wx => StepB wc cb rb g s y wx)
      case first =>
        go_region
        go_wp2_with fail
        go_meet
        have hB0 : Blk wc.drew cb #[.int .i64 s.now, .int .i64 s.real, .pointer (some ⟨rb, 0, none⟩), .bool s.broken] 58 := hC.1
        have hC2 : Chg [cb] wc ((wc.drew.setCell ⟨cb, 0, none⟩ (.int .i64 (s.now + y))).setCell ⟨cb, 1, none⟩ (.int .i64 (s.real + 1))) :=
          (((Chg.refl [cb] wc).drew).setCell ⟨cb, 0, none⟩ (by simp) _).setCell ⟨cb, 1, none⟩ (by simp) _
        have hB2 := (hB0.set 0 (.int .i64 (s.now + y))).set 1 (.int .i64 (s.real + 1))
        exact ⟨⟨hB2, hC.2.1.chg hC2 (fun k hk => by simp; exact fun e => hC.2.2 (e ▸ hk)), hC.2.2⟩, hC2⟩
      case rest =>
        obtain ⟨hC3, hCh3⟩ := hcut
        clear c0 c1 f0 f1 e1 e2 e3 e4
        have hCa := hCh.step hCh3 (by simp [hcF])
        have c2 := hC3.1.cell 2 (by rfl)
        clear hC hCh hCh3
        have hRm := ringRoom hC3.2.1
        go_upto_if 46 with (go_at_call 34; refine hRm.mono ?_; rintro e wd ⟨rfl, hCd⟩)
        have hC4 := hC3.chg hCd (by simp)
        have hCb := hCa.step hCd (by simp)
        have c2d := hC4.1.cell 2 (by rfl)
        go_cut [] (fun wx => StepD w cb rb F { s with now := s.now + y, real := s.real + 1, L := if s.L.length = 8 then s.L.tail else s.L } wx)
        case first =>
          by_cases h8 : s.L.length = 8
          · have hb : ((8 - (s.L.length : Int)) == 0) = true := by simp; omega
            have hPp := ringPop hC4.2.1 (by simp; omega)
            go_wp2_with (go_at_call 35; refine hPp.mono ?_; rintro e we ⟨rfl, hpp⟩)
            go_meet
            have := stepD_of hC4 hCb hfoot hpp
            simpa [h8] using this
          · have hb : ((8 - (s.L.length : Int)) == 0) = false := by simp; omega
            go_wp2_with fail
            go_meet
            exact ⟨g, by simpa [h8] using hC4, hCb, hfoot⟩
        case rest =>
          clear hC3 hCa c2 hRm hCd hC4 hCb c2d hfoot
          obtain ⟨g5, hC5, hCh5, hfoot5⟩ := hcut
          obtain ⟨M, hM, hMl, hMall⟩ : ∃ M : List Int, (if s.L.length = 8 then s.L.tail else s.L) = M ∧ M.length < 8 ∧ ∀ x ∈ M, 0 ≤ x ∧ x ≤ 8 := by
            refine ⟨_, rfl, ?_, ?_⟩
            · split
              · simp; omega
              · omega
            · intro x hx; split at hx
              · exact hall x (List.mem_of_mem_tail hx)
              · exact hall x hx
          rw [hM] at hC5
          have HM := Lib.hid hM
          clear hM
          have hC6 := hC5.chg ((Chg.refl [] wc).alloc (.cells #[.int .i64 y] 3)) (by simp)
          have hCh6 := hCh5.alloc (.cells #[.int .i64 y] 3)
          have hPu := ringPush hC6.2.1 hMl wc.heap.size y (by simp)
          have c2e := hC5.1.cell 2 (by rfl)
          have c2f := hC6.1.cell 2 (by rfl)
          go_upto_region 10 with (go_at_call 36; refine hPu.mono ?_; rintro e wf ⟨rfl, hpu⟩)
          obtain ⟨g7, hC7, hCh7, hfoot7⟩ := stepD_of hC6 hCh6 hfoot5 hpu
          clear hC5 hC6 hCh5 hCh6 hPu c2e c2f hpu hfoot5
          have c2g := hC7.1.cell 2 (by rfl)
          have hLi := ringList hC7.2.1 (by simp)
          go_wp2_with (go_at_call 37; refine hLi.mono ?_; rintro e wh ⟨a', cap', rfl, hown, hbel⟩)
          have hC8 := hC7.chg ((Chg.refl [] wf).ofBelow hbel) (by simp)
          have hCh8 := hCh7.ofBelow hbel
          clear hLi c2g hC7 hCh7 hbel
          obtain ⟨N, hN⟩ : ∃ N, M ++ [y] = N := ⟨_, rfl⟩
          have hNl : N.length = M.length + 1 := by rw [← hN]; simp
          have hNall : ∀ z ∈ N, 0 ≤ z ∧ z ≤ 8 := fun z hz => by
            rw [← hN] at hz
            rcases List.mem_append.1 hz with hz | hz
            · exact hMall z hz
            · simp at hz; omega
          rw [hN] at hC8 hown
          rw [show ((M.length : Int) + 1) = (N.length : Int) by omega, ← hNl]
          have HNL := Lib.hid hNl
          have HN := Lib.hid hN
          have hN8 : N.length ≤ 8 := by omega
          have hN0 : 0 < N.length := by omega
          have HALL := Lib.hid hNall
          clear hNl hN hNall hMall hMl
          go_loopg [5, 65] N.length (fun g s5 s65 wr => wh = wr ∧ ∃ k : Nat, k ≤ N.length ∧ g = N.length - k ∧ s65 = .int .i64 k ∧ s5 = .int .i64 (N.take k).sum)
          case atStart => exact ⟨rfl, 0, Nat.zero_le _, rfl, rfl, by simp⟩
          case round =>
            obtain ⟨rfl, k, hk, rfl, rfl, rfl⟩ := hrel
            by_cases hlt : k < N.length
            case pos =>
              obtain ⟨ga, rfl, hcell⟩ := hown.cell hlt
              have hv := HALL.out _ (show N.getD k 0 ∈ N by rw [List.getD_eq_getElem?_getD, List.getElem?_eq_getElem hlt]; exact List.getElem_mem _)
              have hts := tail_sum N k hlt
              have hsr := sum_range (N.take k) (fun z hz => HALL.out z (List.mem_of_mem_take hz))
              have hlk : (N.take k).length ≤ 8 := by simp; omega
              generalize N.getD k 0 = v at hcell hv hts
              generalize (N.take k).sum = S at hts hsr ⊢
              have HTS := Lib.hid hts
              obtain ⟨v0, v1⟩ := hv
              obtain ⟨S0, S1⟩ := hsr
              have S2 : S ≤ 64 := by omega
              clear hts S1 hlk
              go_wp2_with fail
              go_roundg (N.length - (k + 1))
              case measure => omega
              case rel => exact ⟨rfl, k + 1, by omega, rfl, by go_num, by rw [HTS.out]⟩
            case neg =>
              obtain rfl : k = N.length := by omega
              rw [List.take_length]
              have hput : s.put x = N := by unfold CS.put; rw [HM.out, HY.out, HN.out]
              have hstep : s.step x = { now := s.now + y, real := s.real + 1, L := N, broken := s.broken || CS.bad N } := by unfold CS.step; rw [hput, HY.out]
              have HSTEP := Lib.hid hstep
              clear hput hstep
              have hLe := ringLen hC8.2.1
              have c0 := hC8.1.cell 0 (by rfl)
              have c2 := hC8.1.cell 2 (by rfl)
              have f3 := hC8.1.free 3
              have c3 := hC8.1.cell 3 (by rfl)
              cases hbad : CS.bad N
              case false =>
                have hend : ∃ F', ClockAt wh cb F' (s.step x) ∧ Chg F w wh ∧ ∀ k ∈ F', k ∈ F ∨ w.heap.size ≤ k :=
                  ⟨cb :: foot rb g7, by rw [HSTEP.out]; exact .inr ⟨rb, g7, by simpa [hbad] using hC8, rfl⟩, hCh8, fun k hk => by rcases List.mem_cons.1 hk with rfl | hk; exact .inl hcF; exact hfoot7 k hk⟩
                have HEND := Lib.hid hend
                simp only [CS.bad, Bool.and_eq_false_iff, Bool.or_eq_false_iff, decide_eq_false_iff_not] at hbad
                clear hend
                rcases hbad with h8 | ⟨h7, h9⟩
                · have hb : ((N.length : Int) == 8) = false := by simp; omega
                  clear h8
                  go_wp2_with (go_at_call 38; refine hLe.mono ?_; rintro e we ⟨rfl, rfl⟩)
                  go_ret
                  exact ⟨by rw [HSTEP.out]; rfl, HEND.out⟩
                · have d7 : decide (N.sum < 7) = false := by simp; omega
                  have d9 : decide (9 < N.sum) = false := by simp; omega
                  cases hb : ((N.length : Int) == 8)
                  all_goals
                    go_wp2_with (go_at_call 38; refine hLe.mono ?_; rintro e we ⟨rfl, rfl⟩)
                    go_ret
                    exact ⟨by rw [HSTEP.out]; rfl, HEND.out⟩
              case true =>
                have hC9 : Chg [cb] wh (wh.setCell ⟨cb, 3, none⟩ (.bool true)) := (Chg.refl _ _).setCell ⟨cb, 3, none⟩ (by simp) _
                have hend : ∃ F', ClockAt (wh.setCell ⟨cb, 3, none⟩ (.bool true)) cb F' (s.step x) ∧ Chg F w (wh.setCell ⟨cb, 3, none⟩ (.bool true)) ∧ ∀ k ∈ F', k ∈ F ∨ w.heap.size ≤ k :=
                  ⟨cb :: foot rb g7, by
                    rw [HSTEP.out, hbad, Bool.or_true]
                    exact .inr ⟨rb, g7, ⟨hC8.1.set 3 (.bool true), hC8.2.1.chg hC9 (fun k hk => by simp; exact fun e => hC8.2.2 (e ▸ hk)), hC8.2.2⟩, rfl⟩, hCh8.step hC9 (by simp [hcF]), fun k hk => by rcases List.mem_cons.1 hk with rfl | hk; exact .inl hcF; exact hfoot7 k hk⟩
                have HEND := Lib.hid hend
                simp only [CS.bad, Bool.and_eq_true, Bool.or_eq_true, decide_eq_true_eq] at hbad
                clear hend
                obtain ⟨h8, h79⟩ := hbad
                have hb : ((N.length : Int) == 8) = true := by simp; omega
                clear h8
                rcases h79 with h7 | h9
                · have d7 : decide (N.sum < 7) = true := by simp; omega
                  go_wp2_with (go_at_call 38; refine hLe.mono ?_; rintro e we ⟨rfl, rfl⟩)
                  go_ret
                  exact ⟨by rw [HSTEP.out]; rfl, HEND.out⟩
                · have d7 : decide (N.sum < 7) = false := by simp; omega
                  have d9 : decide (9 < N.sum) = true := by simp; omega
                  go_wp2_with (go_at_call 38; refine hLe.mono ?_; rintro e we ⟨rfl, rfl⟩)
                  go_ret
                  exact ⟨by rw [HSTEP.out]; rfl, HEND.out⟩

end Go.Proofs.Ytbekjfbaelobdaa
