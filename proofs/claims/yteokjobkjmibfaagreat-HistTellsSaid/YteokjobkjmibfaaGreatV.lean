/- The function alive of the package commonslaw26 answers true. No condition. -/
import Derived.Test.YteokjobkjmibfaaGreatQ
import Derived.Deep.RegionWith
import Derived.Deep.RegionHeld3
namespace Go.Proofs.YteokjobkjmibfaaGreat
open Go.RowKit Go.Maps

theorem imgs_blk {w : World} {b : Nat} {i : Img} (hB : Blk w b #[.int .i64 i.block, .int .u64 i.ver, .string i.data] 69) (hok : i.ok) : ImgsAt w (some ⟨b, 0, none⟩) [i] := by
  refine ⟨by simpa using hok, by simp, .inr ⟨b, 0, rfl, fun k hk => ?_⟩⟩
  obtain rfl : k = 0 := by simpa using hk
  exact ⟨hB.cell 0 rfl, hB.cell 1 rfl, hB.cell 2 rfl⟩
theorem imgs_nil (w : World) (a : Option Addr) : ImgsAt w a [] := ⟨by simp, by simp, .inl rfl⟩
theorem evs_blk {w : World} {b : Nat} {cs : Array Value} {L : List Ev} (hB : Blk w b cs 66) (hcs : cs.toList = L.flatMap Ev.six) (hok : ∀ e ∈ L, e.ok) (hl : L.length ≤ 1000000) : EvRow w (some ⟨b, 0, none⟩) L := by
  refine ⟨hok, hl, .inr ⟨b, 0, rfl, blk_cells hB (flat_at ?_)⟩⟩
  rw [hcs, List.take_of_length_le]
  rw [flat_len Ev.six 6 (fun _ => rfl)]
  exact Nat.le_refl _

theorem judge_lit {w : World} {b : Nat} {cs : Array Value} {L : List Ev} (hB : Blk w b cs 66) (hcs : cs.toList = L.flatMap Ev.six) (hok : ∀ e ∈ L, e.ok) (hl : ∀ e ∈ L, e.lies w) (hlen : L.length ≤ 400) {n : Nat} (hn : L.length = n) (cap : Nat) (hcap : n ≤ cap) {r : Bool} (h0 : cutsErr L = 0 ∧ judgeOk L = r) :
    Calls Tryz.prog 18 #[.slice (some ⟨b, 0, none⟩) n cap] w fun e w' => e = .returned (.tuple #[.bool r, .int .i64 0]) ∧ Below w.heap.size w w' := by
  subst hn
  refine (judge_any (evs_blk hB hcs hok (by omega)) hl hlen cap hcap).mono fun e w' ⟨he, hb⟩ => ⟨?_, hb⟩
  rw [he, h0.1, h0.2]

theorem strOfNums_size' (l : List Int) : (strOfNums l).size = l.length := strOfNums_size l
theorem oneStr_size (n : Int) : (oneStr n).size = 96 := by unfold oneStr oneNums; rw [strOfNums_size, List.length_cons, zeros_length]
theorem zero96_size : zero96.size = 96 := by rw [zero96_eq, strOfNums_size, zeros_length]

theorem wf64_of {x : Int} (h0 : -9223372036854775808 ≤ x) (h1 : x ≤ 9223372036854775807) : wf64 x := by
  unfold wf64
  simp [Lit.wf, IntKind.min, IntKind.max, IntKind.signed, IntKind.bits]
  omega

theorem ok_small {e : Ev} (h : 0 ≤ e.kind ∧ e.kind ≤ 1000 ∧ 0 ≤ e.node ∧ e.node ≤ 1000 ∧ 0 ≤ e.epoch ∧ e.epoch ≤ 1000 ∧ 0 ≤ e.lsn ∧ e.lsn ≤ 1000) : e.ok :=
  ⟨wf64_of (by omega) (by omega), wf64_of (by omega) (by omega), wfu64_of (by omega) (by omega), wfu64_of (by omega) (by omega)⟩

theorem Blk.newAt (w : World) (cs : Array Value) (t : TypeId) {b : Nat} (hb : w.heap.size = b) : Blk (w.alloc (.cells cs t)) b cs t := by
  subst hb; exact Blk.new w cs t
theorem Blk.newDrew (w : World) (cs : Array Value) (t : TypeId) {b : Nat} (hb : w.heap.size = b) : Blk (w.alloc (.cells cs t)).drew b cs t := by
  subst hb; exact Blk.new w cs t
theorem Blk.below {w w' : World} {b : Nat} {cs : Array Value} {t : TypeId} (h : Blk w b cs t) (hb : Below w.heap.size w w') : Blk w' b cs t := h.chg ((Chg.refl [] _).ofBelow hb) (by simp)

theorem judge_alive1 {w : World} {g b1 b2 : Nat} (hB : Blk w g #[.int .i64 1, .int .i64 1, .int .u64 1, .int .u64 1, .slice none 0 0, .slice (some ⟨b1, 0, none⟩) 1 1, .int .i64 3, .int .i64 1, .int .u64 1, .int .u64 0, .slice none 0 0, .slice none 0 0, .int .i64 1, .int .i64 2, .int .u64 2, .int .u64 0, .slice (some ⟨b2, 0, none⟩) 1 1, .slice none 0 0] 66)
    (h1 : Blk w b1 #[.int .i64 1, .int .u64 0, .string (oneStr 1)] 69) (h2 : Blk w b2 #[.int .i64 1, .int .u64 0, .string zero96] 69) :
    Calls Tryz.prog 18 #[.slice (some ⟨g, 0, none⟩) 3 3] w fun e w' => e = .returned (.tuple #[.bool true, .int .i64 0]) ∧ Below w.heap.size w w' := by
  refine judge_lit (L := alive1 (some ⟨b1, 0, none⟩) 1 (some ⟨b2, 0, none⟩) 1) hB rfl ?_ ?_ (by simp [alive1]) rfl 3 (Nat.le_refl _) ⟨alive1_err _ _ _ _, alive1_judge _ _ _ _⟩
  · intro e he
    simp only [alive1, List.mem_cons, List.not_mem_nil, or_false] at he
    rcases he with rfl | rfl | rfl <;> exact ok_small (by simp)
  · intro e he
    simp only [alive1, List.mem_cons, List.not_mem_nil, or_false] at he
    rcases he with rfl | rfl | rfl
    · exact ⟨imgs_nil _ _, imgs_blk (i := ⟨1, 0, oneStr 1⟩) h1 ⟨wf64_of (by simp) (by simp), wfu64_of (by simp) (by simp), by rw [oneStr_size]; omega⟩⟩
    · exact ⟨imgs_nil _ _, imgs_nil _ _⟩
    · exact ⟨imgs_blk (i := ⟨1, 0, zero96⟩) h2 ⟨wf64_of (by simp) (by simp), wfu64_of (by simp) (by simp), by rw [zero96_size]; omega⟩, imgs_nil _ _⟩

theorem judge_alive2 {w : World} {g b2 : Nat} (hB : Blk w g #[.int .i64 4, .int .i64 0, .int .u64 0, .int .u64 0, .slice (some ⟨b2, 0, none⟩) 1 1, .slice none 0 0] 66)
    (h2 : Blk w b2 #[.int .i64 1, .int .u64 0, .string (oneStr 1)] 69) :
    Calls Tryz.prog 18 #[.slice (some ⟨g, 0, none⟩) 1 1] w fun e w' => e = .returned (.tuple #[.bool false, .int .i64 0]) ∧ Below w.heap.size w w' := by
  refine judge_lit (L := alive2 (some ⟨b2, 0, none⟩) 1) hB rfl ?_ ?_ (by simp [alive2]) rfl 1 (Nat.le_refl _) (alive2_judge _ _)
  · intro e he
    simp only [alive2, List.mem_cons, List.not_mem_nil, or_false] at he
    subst he
    exact ok_small (by simp)
  · intro e he
    simp only [alive2, List.mem_cons, List.not_mem_nil, or_false] at he
    subst he
    exact ⟨imgs_blk (i := ⟨1, 0, oneStr 1⟩) h2 ⟨wf64_of (by simp) (by simp), wfu64_of (by simp) (by simp), by rw [oneStr_size]; omega⟩, imgs_nil _ _⟩

set_option maxHeartbeats 1000000 in
set_option maxRecDepth 1000000 in
theorem alive_any (w : World) : Calls Tryz.prog 5 #[] w fun e w' => e = .returned (.bool true) ∧ Below w.heap.size w w' := by
  have hmk := make96
  have hcv := conv_zero w
  go_enter Tryz.func5, Tryz.ntmps5
  go_upto_region 2 with (fail)
  have hB2 : Blk ((w.alloc (.cells (Array.replicate 96 (.int .u8 0)) 5)).alloc (.cells #[.int .i64 1, .int .u64 0, .string zero96] 69)) (w.heap.size + 1) #[.int .i64 1, .int .u64 0, .string zero96] 69 := Blk.newAt _ _ _ (by simp)
  have hC2 : Chg [] w ((w.alloc (.cells (Array.replicate 96 (.int .u8 0)) 5)).alloc (.cells #[.int .i64 1, .int .u64 0, .string zero96] 69)) := ((Chg.refl _ w).alloc _).alloc _
  generalize (w.alloc (.cells (Array.replicate 96 (.int .u8 0)) 5)).alloc (.cells #[.int .i64 1, .int .u64 0, .string zero96] 69) = w2 at hB2 hC2 ⊢
  clear hcv
  go_cut [2, 3] (fun s2 s3 wx => s2 = .bool true ∧ s3 = .int .i64 0 ∧ Below w2.heap.size w2 wx)
  case first =>
    have c0 := hB2.cell 0 rfl
    have c1 := hB2.cell 1 rfl
    have c2 := hB2.cell 2 rfl
    have hlt := hB2.lt
    go_region_held3 (fun w' => w'.cell? ⟨w.heap.size + 1, 0, none⟩ = some (.int .i64 1) ∧ w'.cell? ⟨w.heap.size + 1, 1, none⟩ = some (.int .u64 0) ∧ w'.cell? ⟨w.heap.size + 1, 2, none⟩ = some (.string zero96))
      (first | (refine ⟨(hB2.chg hW5 (by simp)).cell 0 rfl, (hB2.chg hW5 (by simp)).cell 1 rfl, (hB2.chg hW5 (by simp)).cell 2 rfl⟩) | (refine ⟨(hB2.chg hW4 (by simp)).cell 0 rfl, (hB2.chg hW4 (by simp)).cell 1 rfl, (hB2.chg hW4 (by simp)).cell 2 rfl⟩) | go_keep)
      (first
        | (go_at_call 21; refine (one_any 1 0 _).mono ?_; rintro e w4 ⟨rfl, hb4⟩; have hW4 : Chg [] w2 w4 := (by first | exact (Chg.refl [] w2).drew.ofBelow hb4 | exact ((Chg.refl [] w2).alloc _).drew.ofBelow hb4 | exact ((Chg.refl [] w2).drew.alloc _).ofBelow hb4))
        | (go_at_call 18; refine (judge_alive1 (by exact Blk.newAt _ _ _ (by simp)) (by first | exact (Blk.newAt _ _ _ (by simp)).alloc _ | exact ((Blk.newAt _ _ _ (by simp)).alloc _).alloc _) (by first | exact (Blk.newAt _ _ _ (by simp)).alloc _ | exact ((Blk.newAt _ _ _ (by simp)).alloc _).alloc _ | exact (((Blk.newDrew _ _ _ rfl).below hb4).alloc _).alloc _)).mono ?_; rintro e w5 ⟨rfl, hb5⟩; have hW5 : Chg [] w2 w5 := (by first | exact (((hW4.alloc _).alloc _).alloc _).ofBelow hb5 | exact ((hW4.alloc _).alloc _).ofBelow hb5)))
    all_goals
      go_wp2_with fail
      go_meet
      exact ⟨rfl, rfl, hW5.below (Nat.le_refl _) (by simp)⟩
  case rest =>
    obtain ⟨rfl, rfl, hb⟩ := hcut
    have hCc : Chg [] w wc := hC2.ofBelow hb
    go_wp2_with fail
    refine (one_any 1 0 _).mono ?_
    rintro e w6 ⟨rfl, hb6⟩
    go_wp2_with fail
    refine (judge_alive2 (by exact Blk.newAt _ _ _ (by simp)) (by exact (Blk.newAt _ _ _ rfl).alloc _)).mono ?_
    rintro e w7 ⟨rfl, hb7⟩
    go_wp2_with fail
    go_ret
    exact ⟨rfl, ((((hCc.ofBelow hb6).alloc _).alloc _).ofBelow hb7).below (Nat.le_refl _) (by simp)⟩

end Go.Proofs.YteokjobkjmibfaaGreat
