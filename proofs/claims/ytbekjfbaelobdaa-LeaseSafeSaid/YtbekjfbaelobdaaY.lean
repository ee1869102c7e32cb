/- The function LeaseSafe returns true at every term, all steps of both clocks and all waits, and nothing that was there turns. Condition: the slices read as slices of whole numbers. -/
import Derived.Test.YtbekjfbaelobdaaXa
namespace Go.Proofs.Ytbekjfbaelobdaa
open Go.RowKit Go.Maps

/-- at the head of the outer loop -/
def SafeRel (w : World) (ca cb mb mm tb tm_ : Nat) (term : Int) (g : Nat) (s13 s14 s15 : Value) (wr : World) : Prop :=
  ∃ (i : Nat) (s : LS) (n : Nat) (ga : Option Addr) (cap : Nat), i ≤ 300 ∧ g = 300 - i ∧ s15 = .int .i64 i ∧ s13 = .slice ga s.ats.length cap ∧ s14 = .int .i64 s.ats.length ∧
    LInv term i (fun j => s.ats.getD j 0 < i) s ∧ n ≤ 300 * i ∧ Mem w ca cb mb mm tb tm_ n s term ga cap wr

/-- at the head of the inner loop -/
def SafeIn (w : World) (ca cb mb mm tb tm_ : Nat) (term : Int) (i : Nat) (s : LS) (n : Nat) (ga : Option Addr) (cap : Nat) (g : Nat) (s21 : Value) (wr : World) : Prop :=
  ∃ (k : Nat) (s4 : LS) (n4 : Nat), k ≤ s.ats.length ∧ g = s.ats.length - k ∧ s21 = .int .i64 k ∧ LInv term (i + 1) (Dk s4.ats i k) s4 ∧ s4.ats = s.ats ∧ n4 ≤ n + k ∧
    Mem w ca cb mb mm tb tm_ n4 s4 term ga cap wr

/-- behind the first test of the inner loop -/
def SafeMid (w : World) (ca cb mb mm tb tm_ : Nat) (term : Int) (i k : Nat) (s : LS) (n : Nat) (ga : Option Addr) (cap : Nat) (wr : World) : Prop :=
  ∃ (s4 : LS) (n4 : Nat), LInv term (i + 1) (Dk s4.ats i (k + 1)) s4 ∧ s4.ats = s.ats ∧ n4 ≤ n + k + 1 ∧ Mem w ca cb mb mm tb tm_ n4 s4 term ga cap wr

theorem mem_start {w w1 w2 w3 w4 : World} {term : Int} (hA : ClockAt w1 w.heap.size [w.heap.size] { now := 0, real := 0, L := [], broken := false }) (h1 : Chg [] w w1)
    (hB : ClockAt w2 w1.heap.size [w1.heap.size] { now := 0, real := 0, L := [], broken := false }) (h2 : Chg [] w1 w2)
    (hM : MineAt w3 (w2.heap.size + 1) w2.heap.size (MS.first term)) (h3 : Chg [] w2 w3) (hT : TableAt w4 (w3.heap.size + 1) w3.heap.size (2 * term) 0 (fun _ => none)) (h4 : Chg [] w3 w4) :
    Mem w w.heap.size w1.heap.size (w2.heap.size + 1) w2.heap.size (w3.heap.size + 1) w3.heap.size 0
      { hA := [], hB := [], sA := { now := 0, real := 0, L := [], broken := false }, sB := { now := 0, real := 0, L := [], broken := false }, m := MS.first term, f := fun _ => none, cs := [], ats := [] } term none 0 w4 := by
  have s1 := h1.size; have s2 := h2.size; have s3 := h3.size; have s4 := h4.size
  have l1 := hA.lt w.heap.size (by simp)
  have l2 := hB.lt w1.heap.size (by simp)
  have l3 := hM.1.lt
  have l4 := hT.1.lt
  refine ⟨⟨[w.heap.size], [w1.heap.size], fun k => if k < w1.heap.size then 1 else if k < w2.heap.size then 2 else if k < w3.heap.size then 3 else 4, ⟨fun k hk => ?_, fun k hk => ?_, fun k hk => ?_, fun k hk => ?_, fun k hk => by simp [blkOf] at hk⟩,
    ((hA.chg h2 (by simp)).chg h3 (by simp)).chg h4 (by simp), (hB.chg h3 (by simp)).chg h4 (by simp)⟩, hM.chg h4 (by simp) (by simp), hT, ⟨[], OwnW.nil _, WayI.nil⟩, ((h1.trans h2).trans h3).trans h4⟩
  · simp at hk; subst hk; simp [l1]; omega
  · simp at hk; subst hk; simp [l2]; omega
  · simp at hk
    have h5 : w2.heap.size ≤ k ∧ k < w3.heap.size := by rcases hk with rfl | rfl <;> omega
    rw [if_neg (by omega), if_neg (by omega), if_pos h5.2]; omega
  · simp at hk
    have h5 : w3.heap.size ≤ k ∧ k < w4.heap.size := by rcases hk with rfl | rfl <;> omega
    rw [if_neg (by omega), if_neg (by omega), if_neg (by omega)]; omega

theorem linv_start {term : Int} (h1 : 32 ≤ term) (h2 : term ≤ 200) : LInv term 0 (fun j => ([] : List Int).getD j 0 < ((0 : Nat) : Int))
    { hA := [], hB := [], sA := { now := 0, real := 0, L := [], broken := false }, sB := { now := 0, real := 0, L := [], broken := false }, m := MS.first term, f := fun _ => none, cs := [], ats := [] } := by
  refine ⟨h1, h2, by omega, rfl, rfl, CInv.start, CInv.start, ?_, rfl, rfl, rfl, rfl, by simp, by simp, by simp, fun _ _ => rfl, fun e he => by simp at he, by simp, fun h => by simp [MS.first] at h⟩
  refine ⟨?_, ?_, ?_, ?_, ?_, ?_, ?_, ?_, ?_, ?_⟩ <;> simp [MS.first] <;> omega

set_option maxHeartbeats 8000000 in
set_option maxRecDepth 1000000 in
theorem leaseSafe_walk (term : Int) (a1 : Option Addr) (len1 cap1 : Nat) (z1 : List Int) (a2 : Option Addr) (len2 cap2 : Nat) (z2 : List Int) (a3 : Option Addr) (len3 cap3 : Nat) (z3 : List Int) (w : World) (w0 : (Lit.int .i64 term).wf = true) (w1 : IsRow .i64 w a1 len1 cap1 z1) (w2 : IsRow .i64 w a2 len2 cap2 z2) (w3 : IsRow .i64 w a3 len3 cap3 z3) :
    Calls Try.prog 7 #[.int .i64 term, .slice a1 len1 cap1, .slice a2 len2 cap2, .slice a3 len3 cap3] w fun e w' => e = .returned (.bool true) ∧ Below w.heap.size w w' := by
  have hm1 := w1.len_le
  have hm2 := w2.len_le
  have hm3 := w3.len_le
  unfold maxLen at hm1 hm2 hm3
  have hr0 := range64 w0
  by_cases hbig : 32 ≤ term ∧ term ≤ 200 ∧ len1 ≤ 300 ∧ len2 ≤ 300 ∧ len3 ≤ 100
  case neg =>
    go_enter Try.func7, Try.ntmps7
    go_wp2_with (go_at_call 8; refine (alive_any _).mono ?_; rintro e w' ⟨rfl, hb⟩)
    any_goals (go_ret; exact ⟨rfl, hb⟩)
    all_goals (exfalso; omega)
  case pos =>
    obtain ⟨t1, t2, hl1, hl2, hl3⟩ := hbig
    have d1 : decide (term < 32) = false := by simp; omega
    have d2 : decide (200 < term) = false := by simp; omega
    go_enter Try.func7, Try.ntmps7
    go_wp2_with fail
    refine (clockNew _).mono ?_
    rintro e wa ⟨rfl, hA, hCa⟩
    go_wp2_with fail
    refine (clockNew _).mono ?_
    rintro e wb ⟨rfl, hB, hCb⟩
    go_wp2_with fail
    refine (newMine_in term _ (by omega) (by omega)).mono ?_
    rintro e wc ⟨rfl, hM, hCc⟩
    go_wp2_with fail
    refine (newTable_in (2 * term) _ (by omega) (by omega)).mono ?_
    rintro e wd ⟨rfl, hT, hCd⟩
    have hmem := mem_start hA hCa hB hCb hM hCc hT hCd
    have hli := linv_start t1 t2
    clear hA hCa hB hCb hM hCc hT hCd
    generalize hca : w.heap.size = ca at hmem
    generalize wa.heap.size = cb at hmem ⊢
    generalize wb.heap.size + 1 = mb at hmem ⊢
    generalize wb.heap.size = mm at hmem ⊢
    generalize wc.heap.size + 1 = tb at hmem ⊢
    generalize wc.heap.size = tm_ at hmem ⊢
    clear hca
    go_wp2_with fail
    go_loopg [13, 14, 15] 300 (fun g s13 s14 s15 wr => SafeRel w ca cb mb mm tb tm_ term g s13 s14 s15 wr)
    case atStart => exact ⟨0, _, 0, none, 0, Nat.zero_le _, rfl, rfl, rfl, rfl, hli, Nat.le_refl _, hmem⟩
    case round =>
      obtain ⟨i, s, n, ga, cap, hi, rfl, rfl, rfl, rfl, hI, hn, hMem⟩ := hrel
      clear hmem hli
      have hc1 := hI.c1
      have hokA := hI.iA.ok (by have := hI.lA; omega)
      have hokB := hI.iB.ok (by have := hI.lB; omega)
      by_cases hlt : i < 300
      case neg =>
        go_wp2_with (go_at_call 8; refine (alive_any _).mono ?_; rintro e w' ⟨rfl, hb⟩)
        go_ret
        exact ⟨rfl, (hMem.chg.ofBelow hb).below (Nat.le_refl _) (by simp)⟩
      case pos =>
        have hCr := hMem.chg
        go_upto_if 72 with fail
        go_cut [16] (fun s16 wx => ∃ x : Int, s16 = .int .i64 x ∧ -9223372036854775808 ≤ x ∧ x ≤ 9223372036854775807 ∧ wr = wx)
        case first =>
          by_cases h1 : i < len1
          · obtain ⟨b1, o1, rfl, hb1, hc, hr⟩ := w1.at_ h1
            have hx := hc i h1
            have hrx := hr i h1
            rw [← hCr.cell (p := ⟨b1, o1 + i, none⟩) hb1 (by simp)] at hx
            clear hc hr
            go_wp2_with fail
            go_meet
            exact ⟨_, rfl, hrx.1, hrx.2, rfl⟩
          · go_wp2_with fail
            go_meet
            exact ⟨1, rfl, by omega, by omega, rfl⟩
        case rest =>
          obtain ⟨x, rfl, x0, x1, rfl⟩ := hcut
          go_upto_if 80 with fail
          go_cut [17] (fun s17 wx => ∃ y : Int, s17 = .int .i64 y ∧ -9223372036854775808 ≤ y ∧ y ≤ 9223372036854775807 ∧ wr = wx)
          case first =>
            by_cases h1 : i < len2
            · obtain ⟨b1, o1, rfl, hb1, hc, hr⟩ := w2.at_ h1
              have hx := hc i h1
              have hrx := hr i h1
              rw [← hCr.cell (p := ⟨b1, o1 + i, none⟩) hb1 (by simp)] at hx
              clear hc hr
              go_wp2_with fail
              go_meet
              exact ⟨_, rfl, hrx.1, hrx.2, rfl⟩
            · go_wp2_with fail
              go_meet
              exact ⟨1, rfl, by omega, by omega, rfl⟩
          case rest =>
            obtain ⟨y, rfl, y0, y1, rfl⟩ := hcut
            have hSA := hMem.stepA x hokA x0 x1
            go_wp2_with fail
            refine hSA.mono ?_
            rintro e wa ⟨rfl, hMa⟩
            have hSB := hMa.stepB y hokB y0 y1
            clear hSA hMem
            go_wp2_with fail
            refine hSB.mono ?_
            rintro e wb ⟨rfl, hMb⟩
            clear hSB hMa
            have hK1 := hMb.keptA
            have hK2 := hMb.keptB
            have hmb := hMb.chg
            cases hkA : (s.sA.step x).broken
            case true =>
              simp only [hkA, Bool.not_true] at hK1
              go_wp2_with fail
              refine hK1.mono ?_
              rintro e w' ⟨rfl, rfl⟩
              go_wp2_with (go_at_call 8; refine (alive_any _).mono ?_; rintro e w' ⟨rfl, hb⟩)
              go_ret
              exact ⟨rfl, (hmb.ofBelow hb).below (Nat.le_refl _) (by simp)⟩
            case false =>
            cases hkB : (s.sB.step y).broken
            case true =>
              simp only [hkA, hkB, Bool.not_true, Bool.not_false] at hK1 hK2
              go_wp2_with fail
              refine hK1.mono ?_
              rintro e w' ⟨rfl, rfl⟩
              go_wp2_with fail
              refine hK2.mono ?_
              rintro e w' ⟨rfl, rfl⟩
              go_wp2_with (go_at_call 8; refine (alive_any _).mono ?_; rintro e w' ⟨rfl, hb⟩)
              go_ret
              exact ⟨rfl, (hmb.ofBelow hb).below (Nat.le_refl _) (by simp)⟩
            case false =>
              simp only [hkA, hkB, Bool.not_false] at hK1 hK2
              go_wp2_with fail
              refine hK1.mono ?_
              rintro e w' ⟨rfl, rfl⟩
              go_wp2_with fail
              refine hK2.mono ?_
              rintro e w' ⟨rfl, rfl⟩
              obtain ⟨s1, hI1, hM1, hats, hla⟩ : ∃ s1 : LS, LInv term (i + 1) (fun j => s1.ats.getD j 0 < i) s1 ∧ Mem w ca cb mb mm tb tm_ n s1 term ga cap wb ∧ s.ats.length = s1.ats.length ∧ s.ats.length ≤ i :=
                ⟨{ s with hA := s.hA ++ [min (max x 0) 8], hB := s.hB ++ [min (max y 0) 8], sA := s.sA.step x, sB := s.sB.step y }, hI.steps hlt x y hkA hkB, ⟨hMb.lies, hMb.mine, hMb.table, hMb.way, hMb.chg⟩, rfl, hI.la⟩
              rw [hats] at hla ⊢
              clear hMb hI hokA hokB hkA hkB hCr hats hK1 hK2
              have hnA := hI1.nowA.2
              go_upto_region 21 with fail
              go_cut [18, 19] (fun s18 s19 wx => (s19 = .bool false ∧ ∃ v : Int, s18 = .int .i64 v ∧ Mem w ca cb mb mm tb tm_ n s1 term ga cap wx) ∨ (s19 = .bool true ∧ s18 = .int .i64 ((s1.ats.length : Int) + 1) ∧ Mem w ca cb mb mm tb tm_ n { s1 with m := s1.m.ask s1.sA.now } term ga cap wx))
              case first =>
                have hNA := hM1.nowA
                cases hno : s1.m.no s1.sA.now
                case true =>
                  have hA := hM1.askNo hI1.mok s1.sA.now (by omega) (by omega) hno
                  go_wp2_with fail
                  refine hNA.mono ?_
                  rintro e w' ⟨rfl, rfl⟩
                  go_wp2_with fail
                  refine hA.mono ?_
                  rintro e w' ⟨rfl, hM2⟩
                  go_wp2_with fail
                  go_meet
                  exact .inl ⟨rfl, 0, rfl, hM2⟩
                case false =>
                  have hA := hM1.askYes hI1.mok (by have := hI1.mn; omega) s1.sA.now (by omega) (by omega) hno
                  have hlast := hI1.mlast
                  rw [hlast] at hA
                  clear hlast
                  go_wp2_with fail
                  refine hNA.mono ?_
                  rintro e w' ⟨rfl, rfl⟩
                  go_wp2_with fail
                  refine hA.mono ?_
                  rintro e w' ⟨rfl, hM2⟩
                  go_wp2_with fail
                  go_meet
                  exact .inr ⟨rfl, rfl, hM2⟩
              case rest =>
                go_upto_if 107 with fail
                go_cut [13, 14] (fun s13 s14 wx => ∃ (s3 : LS) (ga3 : Option Addr) (cap3 : Nat), s13 = .slice ga3 s3.ats.length cap3 ∧ s14 = .int .i64 s3.ats.length ∧ s3.sA = s1.sA ∧ s3.sB = s1.sB ∧ LInv term (i + 1) (fun j => s3.ats.getD j 0 < i) s3 ∧ Mem w ca cb mb mm tb tm_ n s3 term ga3 cap3 wx)
                case first =>
                  rcases hcut with ⟨rfl, v, rfl, hM2⟩ | ⟨rfl, rfl, hM2⟩
                  · go_wp2_with fail
                    go_meet
                    exact ⟨s1, ga, cap, rfl, rfl, rfl, rfl, hI1, hM2⟩
                  · have hM2c := hM2.chg
                    go_upto_if 111 with fail
                    go_cut [20] (fun s20 wx => ∃ v : Int, s20 = .int .i64 v ∧ 0 ≤ v ∧ v ≤ 63 ∧ wc = wx)
                    case first =>
                      by_cases h1 : s1.ats.length < len3
                      · obtain ⟨b1, o1, rfl, hb1, hc, hr⟩ := w3.at_ h1
                        have hx := hc s1.ats.length h1
                        rw [← hM2c.cell (p := ⟨b1, o1 + s1.ats.length, none⟩) hb1 (by simp)] at hx
                        generalize z3.getD s1.ats.length 0 = z at hx
                        clear hc hr
                        have hz : 0 ≤ bits .and .i64 z 63 ∧ bits .and .i64 z 63 ≤ 63 := by rw [i64_and63]; omega
                        go_wp2_with fail
                        go_meet
                        exact ⟨_, rfl, hz.1, hz.2, rfl⟩
                      · go_wp2_with fail
                        go_meet
                        exact ⟨0, rfl, by omega, by omega, rfl⟩
                    case rest =>
                      obtain ⟨v, rfl, v0, v1, rfl⟩ := hcut
                      obtain ⟨xs, hW, hWI⟩ := hM2.way
                      have hl : (s1.ats ++ [(i : Int) + v]).length = s1.ats.length + 1 := by simp
                      have hsn := hWI.snoc ((i : Int) + v)
                      have hask := hI1.asked hla ((i : Int) + v) (by omega) (by omega)
                      have hW2 := hW.chg ((Chg.refl [] wc).alloc (.cells #[.int .i64 ((s1.ats.length : Int) + 1), .int .i64 ((i : Int) + v), .int .i64 0] 44)) (by simp)
                      have HL := Lib.hid hl
                      clear hl
                      go_wp2_with (at_builtin; refine wpList_appendW _ rfl _ _ rfl ga cap s1.ats.length xs rfl hW2 wc.heap.size ((s1.ats.length : Int) + 1) ((i : Int) + v) 0 rfl (by simp) (by simp) (by simp) (by omega) ?_; intro a' cap' w' hown hgr hat)
                      have hCh : Chg (blkOf ga).toList wc w' := ((Chg.refl _ wc).alloc _).grown hgr (fun k hk => .inl (by simp [hk]))
                      have hM3 := hM2.wayTo (ats' := s1.ats ++ [(i : Int) + v]) (by rw [HL.out]; exact hown) hsn hCh (fun k hk => by simpa using hk) (fun k hk => by
                        rcases hat with h | h
                        · exact .inl (by rw [← h]; exact hk)
                        · rw [h] at hk; cases hk; exact .inr (by simp))
                      go_meet
                      exact ⟨{ s1 with m := s1.m.ask s1.sA.now, cs := s1.cs ++ [i + 1], ats := s1.ats ++ [(i : Int) + v] }, a', cap', by show _ = Value.slice a' (s1.ats ++ [(i : Int) + v]).length cap'; rw [HL.out], by show _ = Value.int .i64 (s1.ats ++ [(i : Int) + v]).length; rw [HL.out]; go_num, rfl, rfl, hask, ⟨hM3.lies, hM3.mine, hM3.table, hM3.way, hM3.chg⟩⟩
                case rest =>
                  obtain ⟨s3, ga3, cap3, rfl, rfl, hsA, hsB, hI3, hM3⟩ := hcut
                  clear hsA hsB hM1 hI1 hnA
                  have hl3 := hI3.la
                  have hlt3 : s3.ats.length ≤ 300 := by omega
                  have tt := hI3.t1
                  go_wp2_with fail
                  go_loopg [21] s3.ats.length (fun g s21 wx => SafeIn w ca cb mb mm tb tm_ term i s3 n ga3 cap3 g s21 wx)
                  case atStart =>
                    exact ⟨0, s3, n, Nat.zero_le _, rfl, rfl, hI3.weaken (fun j _ => by
                      unfold Dk
                      constructor
                      · exact .inl
                      · rintro (h | ⟨_, h⟩)
                        · exact h
                        · omega), rfl, by omega, hM3⟩
                  case round =>
                    obtain ⟨k, s4, n4, hk, rfl, rfl, hI4, hat, hn4, hM4⟩ := hrel
                    clear hM3 hI3
                    have HAT := Lib.hid hat
                    clear hat
                    have hnB := hI4.nowB.2
                    have hnA := hI4.nowA.2
                    by_cases hkl : k < s3.ats.length
                    case neg =>
                      have hI5 := hI4.weaken (D' := fun j => s4.ats.getD j 0 < ((i + 1 : Nat) : Int)) (fun j hj => by
                        rw [HAT.out] at hj
                        unfold Dk
                        omega)
                      have hf1 := hI4.f1
                      have hNB := hM4.nowB
                      have hLa := hM4.late (by omega) hf1 s4.sB.now
                      go_wp2_with fail
                      refine hNB.mono ?_
                      rintro e w' ⟨rfl, rfl⟩
                      go_wp2_with fail
                      refine hLa.mono ?_
                      rintro e w' ⟨al, l, cap', rfl, hcase, hM5⟩
                      rcases hcase with rfl | ⟨hl0, e, he, hle⟩
                      · go_wp2_with fail
                        go_roundg (300 - (i + 1))
                        case measure => omega
                        case rel => exact ⟨i + 1, s4, n4, ga3, cap3, by omega, rfl, by go_num, by rw [HAT.out], by rw [HAT.out], hI5, by omega, hM5⟩
                      · have hNA := hM5.nowA
                        have hG := hM5.good s4.sA.now
                        rw [hI5.safe e he hle] at hG
                        go_wp2_with fail
                        refine hNA.mono ?_
                        rintro e w' ⟨rfl, rfl⟩
                        go_wp2_with fail
                        refine hG.mono ?_
                        rintro e w' ⟨rfl, rfl⟩
                        go_wp2_with fail
                        go_roundg (300 - (i + 1))
                        case measure => omega
                        case rel => exact ⟨i + 1, s4, n4, ga3, cap3, by omega, rfl, by go_num, by rw [HAT.out], by rw [HAT.out], hI5, by omega, hM5⟩
                    case pos =>
                      obtain ⟨g, b, rfl, c0, c1, c2, hfr, hset⟩ := hM4.at_ (k := k) (by rw [HAT.out]; exact hkl)
                      obtain ⟨av, hav⟩ : ∃ av, s4.ats.getD k 0 = av := ⟨_, rfl⟩
                      rw [hav] at c1
                      have HAV := Lib.hid hav
                      clear hav
                      go_upto_if 139 with fail
                      go_cut [] (fun wx => SafeMid w ca cb mb mm tb tm_ term i k s3 n (some ⟨g, 0, none⟩) cap3 wx)
                      case first =>
                        by_cases hai : av = i
                        · have hNB := hM4.nowB
                          have hRe := hM4.renew hI4.t1 hI4.t2 (by omega) s4.sB.now hnB.1 hnB.2
                          go_wp2_with fail
                          refine hNB.mono ?_
                          rintro e w' ⟨rfl, rfl⟩
                          go_wp2_with fail
                          refine hRe.mono ?_
                          rintro e w' ⟨⟨b2, rfl⟩, f', n', hn', hf, hM5⟩
                          obtain ⟨g', b', e', c0', c1', c2', hfr', hset'⟩ := hM5.at_ (k := k) (by show k < s4.ats.length; rw [HAT.out]; exact hkl)
                          cases e'
                          have hfrz := hfr' (k * 3 + 2)
                          go_wp2_with fail
                          go_meet
                          exact ⟨{ s4 with f := f' }, n', hI4.come f' hf, HAT.out, by omega, hset' _⟩
                        · have hps := hI4.pass (by rw [HAV.out]; exact hai)
                          go_wp2_with fail
                          go_meet
                          exact ⟨s4, n4, hps, HAT.out, by omega, hM4⟩
                      case rest =>
                        clear hM4 hI4 hset
                        obtain ⟨s5, n5, hI5, hat5, hn5, hM5⟩ := hcut
                        have HAT5 := Lib.hid hat5
                        clear hat5
                        obtain ⟨g', b', e', c0', c1', c2', hfr', hset'⟩ := hM5.at_ (k := k) (by rw [HAT5.out]; exact hkl)
                        cases e'
                        by_cases hbi : b' = i
                        · subst hbi
                          by_cases hle : s5.ats.getD k 0 ≤ i
                          · have hI6 := hI5.heard (by rw [HAT5.out]; exact hkl) hle
                            have hH := hM5.heard hI5.mok ((k : Int) + 1) (by omega) (by omega)
                            generalize s5.ats.getD k 0 = av at c1' hle
                            go_wp2_with fail
                            refine hH.mono ?_
                            rintro e w' ⟨⟨b3, rfl⟩, hM6⟩
                            go_wp2_with fail
                            go_roundg (s3.ats.length - (k + 1))
                            case measure => omega
                            case rel => exact ⟨k + 1, { s5 with m := s5.m.heard ((k : Int) + 1) }, n5, by omega, rfl, by go_num, hI6, HAT5.out, by omega, hM6⟩
                          · generalize s5.ats.getD k 0 = av at c1' hle
                            go_wp2_with fail
                            go_roundg (s3.ats.length - (k + 1))
                            case measure => omega
                            case rel => exact ⟨k + 1, s5, n5, by omega, rfl, by go_num, hI5, HAT5.out, by omega, hM5⟩
                        · go_wp2_with fail
                          go_roundg (s3.ats.length - (k + 1))
                          case measure => omega
                          case rel => exact ⟨k + 1, s5, n5, by omega, rfl, by go_num, hI5, HAT5.out, by omega, hM5⟩

end Go.Proofs.Ytbekjfbaelobdaa
