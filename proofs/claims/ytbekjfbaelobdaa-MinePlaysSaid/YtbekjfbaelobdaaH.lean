/- The function MinePlays returns true at every term and all steps and stamps, and nothing that was there turns. Condition: the slices read as slices of whole numbers. -/
import Derived.Test.YtbekjfbaelobdaaPm
import Derived.Test.YtbekjfbaelobdaaR
import Derived.Deep.DeepCutAuto
import Derived.Deep.LoopGhost
namespace Go.Proofs.Ytbekjfbaelobdaa
open Go.RowKit Go.Maps

/-- what holds at the head of the loop -/
def MPRel (w : World) (T : Int) (len1 : Nat) (g : Nat) (s8 s9 s10 s11 s12 : Value) (wr : World) : Prop :=
  ∃ (k : Nat) (s : PS) (a : Option Addr) (cap : Nat), k ≤ len1 ∧ g = len1 - k ∧ s12 = .int .i64 k ∧ s8 = .int .i64 s.now ∧ s9 = .int .i64 s.last ∧ s10 = .int .i64 s.en ∧ s11 = .slice a s.L.length cap ∧
    PInv T k s ∧ MineAt wr (w.heap.size + 1) w.heap.size s.m ∧ wr.ownsRow (w.heap.size + 2) 3 1 (.slice a s.L.length cap) s.L.length (s.L.map (Value.int .i64)) ∧ Chg [] w wr

/-- what holds behind what was heard in a round; s: what held ahead of it -/
def MPCut (w : World) (T : Int) (k : Nat) (s : PS) (a : Option Addr) (cap : Nat) (s10 : Value) (wr : World) : Prop :=
  ∃ s3 : PS, s3.now = s.now ∧ s3.last = s.last ∧ s3.L = s.L ∧ s10 = .int .i64 s3.en ∧ PInv T (k + 1) s3 ∧ MineAt wr (w.heap.size + 1) w.heap.size s3.m ∧
    wr.ownsRow (w.heap.size + 2) 3 1 (.slice a s.L.length cap) s.L.length (s.L.map (Value.int .i64)) ∧ Chg [] w wr

/-- what holds ahead of the loop -/
def MPHead (w : World) (T : Int) (s0 : Value) (wr : World) : Prop :=
  s0 = .int .i64 T ∧ MineAt wr (w.heap.size + 1) w.heap.size { T := T, last := 0, at_ := 0, en := 0, g := false, n := 0, f := fun _ => none } ∧ Chg [] w wr

set_option maxHeartbeats 2000000 in
set_option maxRecDepth 100000 in
theorem minePlays_walk (term : Int) (a1 : Option Addr) (len1 cap1 : Nat) (z1 : List Int) (a2 : Option Addr) (len2 cap2 : Nat) (z2 : List Int) (w : World) (_w0 : (Lit.int .i64 term).wf = true) (w1 : IsRow .i64 w a1 len1 cap1 z1) (w2 : IsRow .i64 w a2 len2 cap2 z2) :
    Calls Try.prog 3 #[.int .i64 term, .slice a1 len1 cap1, .slice a2 len2 cap2] w fun e w' => e = .returned (.bool true) ∧ Below w.heap.size w w' := by
  have hm1 := w1.len_le
  have hm2 := w2.len_le
  unfold maxLen at hm1 hm2
  by_cases hbig : len1 ≤ 100 ∧ len2 ≤ 100
  case neg =>
    go_enter Try.func3, Try.ntmps3
    go_wp2_with (go_at_call 8; refine (alive_any _).mono ?_; rintro e w' ⟨rfl, hb⟩)
    any_goals (go_ret; exact ⟨rfl, hb⟩)
    all_goals (exfalso; omega)
  case pos =>
    obtain ⟨hl1, hl2⟩ := hbig
    obtain ⟨T, hT, t1, t2⟩ : ∃ T, min (max term 1) 100000 = T ∧ 1 ≤ T ∧ T ≤ 100000 := ⟨_, rfl, by omega, by omega⟩
    have HT := Lib.hid hT
    clear hT
    go_enter Try.func3, Try.ntmps3
    go_upto_region 6 with (go_at_call 9; refine (newMine_any term _).mono ?_; rintro e wx ⟨rfl, hM, hC⟩)
    go_cut [0] (fun s0 wr => MPHead w T s0 wr)
    case first =>
      go_wp2_with fail
      go_meet
      refine ⟨by rw [HT.out], ?_, hC⟩
      have e : MS.new term = { T := T, last := 0, at_ := 0, en := 0, g := false, n := 0, f := fun _ => none } := by unfold MS.new; rw [HT.out]
      rw [← e]; exact hM
    case rest =>
      obtain ⟨rfl, hM0, hC0⟩ := hcut
      clear hM hC wx
      go_wp2_with fail
      go_loopg [8, 9, 10, 11, 12] len1 (fun g s8 s9 s10 s11 s12 wr => MPRel w T len1 g s8 s9 s10 s11 s12 wr)
      case atStart =>
        exact ⟨0, { now := 0, last := -1, en := 0, L := [], m := { T := T, last := 0, at_ := 0, en := 0, g := false, n := 0, f := fun _ => none } }, none, 0, Nat.zero_le _, rfl, rfl, rfl, rfl, rfl, rfl, PInv.start T t1 t2, hM0, World.ownsRow_nil _ _ _ _, hC0⟩
      case round =>
        obtain ⟨k, s, a, cap, hk, rfl, rfl, rfl, rfl, rfl, rfl, hI, hM, hown, hC⟩ := hrel
        by_cases hlt : k < len1
        case neg =>
          go_wp2_with (go_at_call 8; refine (alive_any _).mono ?_; rintro e w' ⟨rfl, hb⟩)
          go_ret
          exact ⟨rfl, (hC.ofBelow hb).below (Nat.le_refl _) (by simp)⟩
        case pos =>
          obtain ⟨b1, o1, rfl, hb1, hc1, hr1⟩ := w1.at_ hlt
          have hx1 := hc1 k hlt
          have hr := hr1 k hlt
          rw [← hC.cell (p := ⟨b1, o1 + k, none⟩) hb1 (by simp)] at hx1
          generalize z1.getD k 0 = x at hx1 hr
          clear hc1 hr1
          by_cases hx : 0 ≤ x ∧ x ≤ 1000000
          case neg =>
            have hB := hC.below (B := w.heap.size) (Nat.le_refl _) (by simp)
            go_wp2_with fail
            all_goals first | (go_ret; exact ⟨rfl, hB⟩) | (exfalso; omega)
          case pos =>
            obtain ⟨x0, x1⟩ := hx
            have hok := hI.ok
            have hn0 := hI.now0
            have hn1 := hI.now1
            have hk100 : k < 100 := by omega
            cases hno : s.m.no (s.now + x)
            case' true =>
              obtain ⟨hI2, hl0, hl1, hl2⟩ := hI.askNo x x0 x1 hk100 hno
              go_upto_if 104 with (go_at_call 10; refine (ask_no hM hok (s.now + x) (by omega) (by omega) hno).mono ?_; rintro e wb ⟨rfl, hCb⟩)
              have hMb : MineAt wb (w.heap.size + 1) w.heap.size s.m := hM.chg hCb (by simp) (by simp)
              have hownB : wb.ownsRow (w.heap.size + 2) 3 1 (.slice a s.L.length cap) s.L.length (s.L.map (Value.int .i64)) := ownsRow_chg hown hCb (by simp)
              have hCB : Chg [] w wb := hC.step hCb (by simp)
              obtain ⟨s2, e2⟩ : ∃ s2 : PS, s2 = { s with now := s.now + x } := ⟨_, rfl⟩
              rw [← e2] at hI2
              rw [show s.m = s2.m by rw [e2]] at hMb
              rw [show s.L = s2.L by rw [e2]] at hownB
              rw [show s.now + x = s2.now by rw [e2], show s.last = s2.last by rw [e2], show s.en = s2.en by rw [e2], show s.L.length = s2.L.length by rw [e2]]
              clear hl0 hl1 hl2 hCb
              have E9 : Hid (s2.last = s2.last) := rfl
              have E2 := Lib.hid e2
              clear e2
            case' false =>
              obtain ⟨hI2, hl⟩ := hI.askYes x x0 x1 hk100 hno
              have hml := hI.mlast
              have hlk := hI.lk
              go_upto_region 16 with (go_at_call 10; refine (ask_yes hM hok (s.now + x) (by omega) (by omega) (by have := hI.mn; omega) hno).mono ?_; rintro e wa ⟨rfl, hMa, hCa⟩)
              go_cut [15] (fun s15 wx => s15 = .bool true ∧ wa = wx)
              case first =>
                rcases hl with hl | ⟨hl0, hl1, hl2⟩
                · go_wp2_with fail
                  go_meet
                  exact ⟨rfl, rfl⟩
                · have hl3 : decide (s.last < 0) = false := by simp; omega
                  go_wp2_with fail
                  go_meet
                  exact ⟨rfl, rfl⟩
              case' rest =>
                obtain ⟨rfl, rfl⟩ := hcut
                have hCA : Chg [] w wa := hC.step hCa (by simp)
                have hownA : wa.ownsRow (w.heap.size + 2) 3 1 (.slice a s.L.length cap) s.L.length (s.L.map (Value.int .i64)) := ownsRow_chg hown hCa (by simp)
                have hsz : w.heap.size + 2 ≤ wa.heap.size := by have := hMa.1.lt; omega
                go_upto_if 104 with (at_builtin; refine wpList_append_I _ rfl _ _ rfl (w.heap.size + 2) a s.L.length cap s.L rfl (hownA.alloc _) wa.heap.size (s.now + x) rfl (by simp) (by omega) (by simp; omega) ?_; intro a cap wb hownB hgB hrB)
                have hCB : Chg [] w wb := (hCA.alloc _).grown hgB (fun j hj => .inr (by have := hrB j hj; omega))
                have hMb : MineAt wb (w.heap.size + 1) w.heap.size (s.m.ask (s.now + x)) := by
                  have h1 := hMa.chg ((Chg.refl [] wa).alloc (.cells #[.int .i64 (s.now + x)] 3)) (by simp) (by simp)
                  exact ⟨h1.1.grown hgB (fun e => by have := hrB _ e.symm; omega), h1.2.1.kept hgB (fun e => by have := hrB _ e.symm; omega), h1.2.2⟩
                obtain ⟨s2, e2⟩ : ∃ s2 : PS, s2 = { now := s.now + x, last := s.now + x, en := s.en, L := s.L ++ [s.now + x], m := s.m.ask (s.now + x) } := ⟨_, rfl⟩
                have e3 : s.L.length + 1 = s2.L.length := by rw [e2]; simp
                rw [← e2] at hI2
                rw [show s.m.ask (s.now + x) = s2.m by rw [e2]] at hMb
                rw [show s.L ++ [s.now + x] = s2.L by rw [e2], e3] at hownB
                rw [show s.now + x = s2.now by rw [e2], show s.en = s2.en by rw [e2], e3]
                clear hCA hownA hgB hrB hCa hMa hml hsz hl
                have E9 : Hid (s2.now = s2.last) := by show s2.now = s2.last; rw [e2]
                have E2 := Lib.hid e2
                clear e2 e3
            all_goals
              go_cut [10] (fun s10 wx => MPCut w T k s2 a cap s10 wx)
              case first =>
                by_cases hk2 : k < len2
                case neg =>
                  go_wp2_with fail
                  go_meet
                  exact ⟨s2, rfl, rfl, rfl, rfl, hI2, hMb, hownB, hCB⟩
                case pos =>
                  obtain ⟨b2, o2, rfl, hb2, hc2, hr2⟩ := w2.at_ hk2
                  have hy := hc2 k hk2
                  have hry := hr2 k hk2
                  rw [← hCB.cell (p := ⟨b2, o2 + k, none⟩) hb2 (by simp)] at hy
                  generalize z2.getD k 0 = y at hy hry
                  clear hc2 hr2
                  have hok2 := hI2.ok
                  have hnb : s2.now ≤ 100000000 := by have := hI2.now1; omega
                  have hlk2 := hI2.lk
                  by_cases hin : 1 ≤ y ∧ y ≤ s2.L.length
                  case neg =>
                    have hf := hI2.heardOut y (by omega)
                    have hH : Calls Try.prog 11 #[.pointer (some ⟨w.heap.size + 1, 0, none⟩), .int .i64 y] wb fun e w' => e = .returned (.bool false) ∧ wb = w' := heard_none hMb y hry.1 hry.2 hf
                    clear hf
                    go_wp2_with (go_at_call 11; refine hH.mono ?_; rintro e w' ⟨rfl, rfl⟩)
                    all_goals first | (go_meet; exact ⟨s2, rfl, rfl, rfl, rfl, hI2, hMb, hownB, hCB⟩) | (exfalso; omega)
                  case pos =>
                    obtain ⟨y1, y2⟩ := hin
                    obtain ⟨hf, hv0, hv1⟩ := hI2.heardIn y y1 y2
                    obtain ⟨g, rfl, hg, hcell⟩ := ownsRow_cell hownB (i := (y - 1).toNat) (by omega)
                    generalize s2.L.getD (y - 1).toNat 0 = v at hf hv0 hv1 hcell
                    have hcell' : wb.cell? ⟨g, y.toNat - 1, none⟩ = some (.int .i64 v) := by rw [show y.toNat - 1 = (y - 1).toNat by omega]; exact hcell
                    by_cases hlat : s2.en < v + T
                    case pos =>
                      obtain ⟨hI3, hcase⟩ := hI2.later v hv0 hv1 hlat
                      have hH := heard_yes hMb hok2 y v hry.1 hry.2 hf hcase
                      clear hf hcase
                      have hgl := lt_of_cell hcell'
                      go_wp2_with (go_at_call 11; refine hH.mono ?_; rintro e w' ⟨rfl, hMh, hCh⟩; have hcell3 := (hCh.cell (p := ⟨g, y.toNat - 1, none⟩) hgl (by simp; omega)).trans hcell')
                      go_meet
                      exact ⟨{ s2 with en := v + T, m := { s2.m with en := behind v s2.m.T, g := true } }, rfl, rfl, rfl, rfl, hI3, hMh, ownsRow_chg hownB hCh (by simp), hCB.step hCh (by simp)⟩
                    case neg =>
                      obtain ⟨hg1, hg2⟩ := hI2.notLater v hv0 hv1 (by omega)
                      have hH : Calls Try.prog 11 #[.pointer (some ⟨w.heap.size + 1, 0, none⟩), .int .i64 y] wb fun e w' => e = .returned (.bool false) ∧ wb = w' := heard_no hMb hok2 y v hry.1 hry.2 hf hg1 hg2
                      clear hf hg1 hg2
                      go_wp2_with (go_at_call 11; refine hH.mono ?_; rintro e w' ⟨rfl, rfl⟩)
                      go_meet
                      exact ⟨s2, rfl, rfl, rfl, rfl, hI2, hMb, hownB, hCB⟩
              case rest =>
                obtain ⟨s3, h31, h32, h33, rfl, hI3, hM3, hown3, hC3⟩ := hcut
                have hE : Calls Try.prog 12 #[.pointer (some ⟨w.heap.size + 1, 0, none⟩)] wc fun e w' => e = .returned (.int .i64 s3.en) ∧ wc = w' := by
                  have := end_any hM3
                  cases hg : s3.m.g with
                  | false => rw [hg] at this; rw [hI3.en0 hg]; exact this
                  | true => rw [hg] at this; rw [(hI3.en1 hg).1]; exact this
                have hG : Calls Try.prog 13 #[.pointer (some ⟨w.heap.size + 1, 0, none⟩), .int .i64 s2.now] wc fun e w' => e = .returned (.bool (decide (0 < s3.en) && decide (s2.now < s3.en))) ∧ wc = w' := by
                  have := good_any hM3 s2.now
                  cases hg : s3.m.g with
                  | false => rw [hg] at this; rw [hI3.en0 hg]; exact this
                  | true =>
                    have h1 := hI3.en1 hg
                    rw [hg, ← h1.1] at this
                    rw [show decide (0 < s3.en) = true by simp; omega]; exact this
                have H31 := Lib.hid h31
                have H32 := Lib.hid h32
                have H33 := Lib.hid h33
                clear h31 h32 h33
                by_cases he : 0 < s3.en
                case' pos =>
                  cases hb : decide (s2.now < s3.en)
                all_goals
                  simp only [he, decide_true, decide_false, Bool.true_and, Bool.false_and] at hG
                  try rw [hb] at hG
                  go_wp2_with (first
                    | (go_at_call 12; refine hE.mono ?_; rintro e w' ⟨rfl, rfl⟩)
                    | (go_at_call 13; refine hG.mono ?_; rintro e w' ⟨rfl, rfl⟩))
                  go_roundg (len1 - (k + 1))
                  case measure => omega
                  case rel =>
                    exact ⟨k + 1, s3, a, cap, by omega, rfl, by go_num, by rw [H31.out], by first | (rw [H32.out]; done) | rw [H32.out, E9.out], rfl, by rw [H33.out], hI3, hM3, by rw [H33.out]; exact hown3, hC3⟩

end Go.Proofs.Ytbekjfbaelobdaa
