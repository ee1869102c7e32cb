/- The Book's small functions: are two lists alike, a copy, marks. Condition: the lists can be read; at most a million elements. Printed by wip/tools/book.py. -/
import Derived.Test.YteokjobkjmibfaaGreatBk
namespace Go.Proofs.YteokjobkjmibfaaGreat
open Go.RowKit Go.Maps

theorem Rd.atN {w : World} {a : Option Addr} {L : List Int} (h : Rd kN w a L) {k : Nat} (hk : k < L.length) : ∃ b o, a = some ⟨b, o, none⟩ ∧ w.cell? ⟨b, o + k, none⟩ = some (.int .u64 (L.getD k 0)) := by
  rcases h with rfl | ⟨b, o, rfl, h⟩
  · simp at hk
  · refine ⟨b, o, rfl, ?_⟩
    have := h k hk 0 (by decide)
    simpa using this
theorem Rd.atM {w : World} {a : Option Addr} {L : List Img} (h : Rd kM w a L) {k : Nat} (hk : k < L.length) : ∃ b o, a = some ⟨b, o, none⟩ ∧ w.cell? ⟨b, o + k * 3, none⟩ = some (.int .i64 (L.getD k default).block) ∧
    w.cell? ⟨b, o + k * 3 + 1, none⟩ = some (.int .u64 (L.getD k default).ver) ∧ w.cell? ⟨b, o + k * 3 + 2, none⟩ = some (.string (L.getD k default).data) := by
  rcases h with rfl | ⟨b, o, rfl, h⟩
  · simp at hk
  · exact ⟨b, o, rfl, h k hk 0 (by decide), h k hk 1 (by decide), h k hk 2 (by decide)⟩

def mkN (i k : Nat) : Int := 1000000 * i + k + 7
def mkM (i k : Nat) : Img := ⟨-1 - i, k, ⟨#[]⟩⟩
theorem mkN_ok {i k : Nat} (hi : i ≤ 100000) (hk : k ≤ 100000000) : wfu64 (mkN i k) := wfu64_of (by unfold mkN; omega) (by unfold mkN; omega)
theorem mkM_ok {i k : Nat} (hi : i ≤ 100000) (hk : k ≤ 100000000) : (mkM i k).ok := ⟨wf64_of (by unfold mkM; simp only; omega) (by unfold mkM; simp only; omega), wfu64_of (by unfold mkM; simp only; omega) (by unfold mkM; simp only; omega), by unfold mkM; show (0 : Nat) ≤ 1000000; omega⟩

theorem src_one {α : Type} [Inhabited α] {K : Kd α} {w : World} {b : Nat} {x : α} (hok : K.ok x) {t : TypeId} (hB : Blk w b (K.cells x).toArray t) : Src K w (.slice (some ⟨b, 0, none⟩) 1 1) [x] := by
  refine ⟨fun y hy => by rw [List.mem_singleton.1 hy]; exact hok, .inr ⟨⟨b, 0, none⟩, 1, rfl, .inr rfl, fun k hk r hr => ?_⟩⟩
  obtain rfl : k = 0 := by simpa using hk
  have h1 : w.cell? ⟨b, 0 + (0 * K.size + r), none⟩ = (K.cells x).toArray[r]? := by
    unfold Blk at hB
    simp [World.cell?, hB]
  show w.cell? ⟨b, 0 + (0 * K.size + r), none⟩ = _
  rw [h1]
  simp

set_option maxHeartbeats 1000000 in
theorem sameN_yes {w : World} {a b : Option Addr} {L : List Int} (ha : Rd kN w a L) (hb : Rd kN w b L) (hl : L.length ≤ 1000000) (ca cb : Nat) :
    Calls Tryz.prog 11 #[.slice a L.length ca, .slice b L.length cb] w fun e w' => e = .returned (.bool true) ∧ Chg [] w w' := by
  go_enter Tryz.func11, Tryz.ntmps11
  go_wp2_with fail
  go_loopg [5] L.length (fun q s5 wr => ∃ k : Nat, k ≤ L.length ∧ q = L.length - k ∧ s5 = .int .i64 k ∧ Chg [] w wr)
  case atStart => exact ⟨0, Nat.zero_le _, rfl, rfl, Chg.refl _ _⟩
  case round =>
    obtain ⟨k, hk, rfl, rfl, hC⟩ := hrel
    by_cases hlt : k < L.length
    case neg =>
      obtain rfl : k = L.length := by omega
      go_wp2_with fail
      go_ret
      exact ⟨rfl, hC⟩
    case pos =>
      obtain ⟨b1, o1, rfl, c0⟩ := (ha.chg0 lawN hC).atN hlt
      obtain ⟨b2, o2, rfl, d0⟩ := (hb.chg0 lawN hC).atN hlt
      have e1 : (0 : Int) ≤ (k : Int) := by omega
      have e2 : (k : Int) < (L.length : Int) := by omega
      generalize L.getD k 0 = x at c0 d0
      go_wp2_with fail
      go_quiet (fail)
      go_wp2_with fail
      go_roundg (L.length - (k + 1))
      case measure => omega
      case rel => exact ⟨k + 1, by omega, rfl, by go_num, hC.drewN _⟩

theorem copyN_any {w : World} {a : Option Addr} {n cap : Nat} {L : List Int} (h : Src kN w (.slice a n cap) L) (hn : L.length = n) (hl : L.length ≤ 1000000) :
    Calls Tryz.prog 23 #[.slice a n cap] w fun e w' => ∃ (a' : Option Addr) (cap' : Nat), e = .returned (.slice a' n cap') ∧ Own kN w' a' cap' L ∧ (∀ g, blkOf a' = some g → w.heap.size ≤ g) ∧ Chg [] w w' := by
  have HN := Lib.hid hn
  have H := Lib.hid h
  clear hn h
  go_enter Tryz.func23, Tryz.ntmps23
  go_wp2_with (at_builtin; refine wpList_appendK kN lawN _ rfl _ _ rfl none 0 0 [] rfl rfl (Own.nil _ _) (by decide) (.slice a n cap) L n rfl H.out (by omega) (by rw [HN.out]; omega) ?_; intro a5 cap5 w5 hO5 hg5 hat5 _)
  go_ret
  refine ⟨a5, cap5, rfl, hO5, fun g hg => ?_, (Chg.refl _ _).grown hg5 (fun g hg => by cases hg)⟩
  rcases hat5 with e | e
  · rw [e] at hg; cases hg
  · rw [e] at hg; cases hg; exact Nat.le_refl _

def mksN (i f n : Nat) : List Int := (List.range n).map fun j => mkN i (f + j)
theorem mksN_length (i f n : Nat) : (mksN i f n).length = n := by unfold mksN; simp
theorem mksN_succ (i f n : Nat) : mksN i f (n + 1) = mksN i f n ++ [mkN i (f + n)] := by unfold mksN; rw [List.range_succ, List.map_append]; rfl
theorem mksN_app (i n : Nat) : ∀ m, mksN i 0 n ++ mksN i n m = mksN i 0 (n + m)
  | 0 => by simp [mksN]
  | m + 1 => by rw [mksN_succ, ← List.append_assoc, mksN_app i n m, ← Nat.add_assoc, mksN_succ i 0 (n + m), Nat.zero_add]

set_option maxHeartbeats 2000000 in
theorem markN_any (w : World) {i f n : Nat} (hi : i ≤ 1000) (hf : f ≤ 10000000) (hn : n ≤ 1000000) :
    Calls Tryz.prog 125 #[.int .i64 i, .int .i64 f, .int .i64 n] w fun e w' => ∃ (a : Option Addr) (cap : Nat), e = .returned (.slice a n cap) ∧ Own kN w' a cap (mksN i f n) ∧ (∀ g, blkOf a = some g → w.heap.size ≤ g) ∧ Chg [] w w' := by
  go_enter Tryz.func125, Tryz.ntmps125
  go_wp2_with fail
  go_loopg [7, 8] n (fun q s7 s8 wr => ∃ (j : Nat) (a : Option Addr) (cap : Nat), j ≤ n ∧ q = n - j ∧ s8 = .int .i64 ((f + j : Nat) : Int) ∧ s7 = .slice a j cap ∧ Own kN wr a cap (mksN i f j) ∧ (∀ g, blkOf a = some g → w.heap.size ≤ g) ∧ Chg [] w wr)
  case atStart => exact ⟨0, none, 0, Nat.zero_le _, rfl, by simp, rfl, Own.nil _ _, by simp [blkOf], Chg.refl _ _⟩
  case round =>
    obtain ⟨j, a, cap, hj, rfl, rfl, rfl, hO, hg, hC⟩ := hrel
    have HO := Lib.hid hO
    have HG := Lib.hid hg
    clear hO hg
    by_cases hlt : j < n
    case neg =>
      obtain rfl : j = n := by omega
      go_wp2_with fail
      go_ret
      exact ⟨a, cap, rfl, HO.out, HG.out, hC⟩
    case pos =>
      have HOK := Lib.hid (mkN_ok (i := i) (k := f + j) (by omega) (by omega))
      have HL := Lib.hid (mksN_length i f j)
      have hsw := hC.size
      have HX : Hid (∀ W : World, Src kN (W.alloc (.cells #[.int .u64 (1000000 * (i : Int) + ((f + j : Nat) : Int) + 7)] 64)) (.slice (some ⟨W.heap.size, 0, none⟩) 1 1) [mkN i (f + j)]) := Lib.hid (fun W => src_one HOK.out (Blk.new W _ 64))
      go_wp2_with (at_builtin; refine wpList_appendK kN lawN _ rfl _ _ rfl a cap j (mksN i f j) HL.out rfl (HO.out.chg ((Chg.refl [] _).alloc _) (by simp)) (by rw [HL.out]; omega) (.slice (some ⟨_, 0, none⟩) 1 1) [mkN i (f + j)] (j + 1) rfl (HX.out _) (by simp) rfl ?_; intro a5 cap5 w5 hO5 hg5 hat5 _)
      have HO5 := Lib.hid hO5
      clear hO5
      go_roundg (n - (j + 1))
      case measure => omega
      case rel => exact ⟨j + 1, a5, cap5, by omega, rfl, by go_num, rfl, by rw [mksN_succ]; exact HO5.out, fun g hg => by
        rcases hat5 with e | e
        · rw [e] at hg; exact HG.out g hg
        · rw [e] at hg; cases hg; rw [World.size_alloc]; omega, (hC.alloc _).grown hg5 (fun g hg => .inr (HG.out g hg))⟩

set_option maxHeartbeats 1000000 in
theorem sameM_yes {w : World} {a b : Option Addr} {L : List Img} (ha : Rd kM w a L) (hb : Rd kM w b L) (hl : L.length ≤ 1000000) (ca cb : Nat) :
    Calls Tryz.prog 15 #[.slice a L.length ca, .slice b L.length cb] w fun e w' => e = .returned (.bool true) ∧ Chg [] w w' := by
  go_enter Tryz.func15, Tryz.ntmps15
  go_wp2_with fail
  go_loopg [5] L.length (fun q s5 wr => ∃ k : Nat, k ≤ L.length ∧ q = L.length - k ∧ s5 = .int .i64 k ∧ Chg [] w wr)
  case atStart => exact ⟨0, Nat.zero_le _, rfl, rfl, Chg.refl _ _⟩
  case round =>
    obtain ⟨k, hk, rfl, rfl, hC⟩ := hrel
    by_cases hlt : k < L.length
    case neg =>
      obtain rfl : k = L.length := by omega
      go_wp2_with fail
      go_ret
      exact ⟨rfl, hC⟩
    case pos =>
      obtain ⟨b1, o1, rfl, c0, c1, c2⟩ := (ha.chg0 lawM hC).atM hlt
      obtain ⟨b2, o2, rfl, d0, d1, d2⟩ := (hb.chg0 lawM hC).atM hlt
      have e1 : (0 : Int) ≤ (k : Int) := by omega
      have e2 : (k : Int) < (L.length : Int) := by omega
      generalize L.getD k default = x at c0 c1 c2 d0 d1 d2
      obtain ⟨xb, xv, xd⟩ := x
      simp only at c0 c1 c2 d0 d1 d2
      go_wp2_with fail
      go_quiet (fail)
      go_wp2_with fail
      go_roundg (L.length - (k + 1))
      case measure => omega
      case rel => exact ⟨k + 1, by omega, rfl, by go_num, hC.drewN _⟩

theorem copyM_any {w : World} {a : Option Addr} {n cap : Nat} {L : List Img} (h : Src kM w (.slice a n cap) L) (hn : L.length = n) (hl : L.length ≤ 1000000) :
    Calls Tryz.prog 36 #[.slice a n cap] w fun e w' => ∃ (a' : Option Addr) (cap' : Nat), e = .returned (.slice a' n cap') ∧ Own kM w' a' cap' L ∧ (∀ g, blkOf a' = some g → w.heap.size ≤ g) ∧ Chg [] w w' := by
  have HN := Lib.hid hn
  have H := Lib.hid h
  clear hn h
  go_enter Tryz.func36, Tryz.ntmps36
  go_wp2_with (at_builtin; refine wpList_appendK kM lawM _ rfl _ _ rfl none 0 0 [] rfl rfl (Own.nil _ _) (by decide) (.slice a n cap) L n rfl H.out (by omega) (by rw [HN.out]; omega) ?_; intro a5 cap5 w5 hO5 hg5 hat5 _)
  go_ret
  refine ⟨a5, cap5, rfl, hO5, fun g hg => ?_, (Chg.refl _ _).grown hg5 (fun g hg => by cases hg)⟩
  rcases hat5 with e | e
  · rw [e] at hg; cases hg
  · rw [e] at hg; cases hg; exact Nat.le_refl _

def mksM (i f n : Nat) : List Img := (List.range n).map fun j => mkM i (f + j)
theorem mksM_length (i f n : Nat) : (mksM i f n).length = n := by unfold mksM; simp
theorem mksM_succ (i f n : Nat) : mksM i f (n + 1) = mksM i f n ++ [mkM i (f + n)] := by unfold mksM; rw [List.range_succ, List.map_append]; rfl
theorem mksM_app (i n : Nat) : ∀ m, mksM i 0 n ++ mksM i n m = mksM i 0 (n + m)
  | 0 => by simp [mksM]
  | m + 1 => by rw [mksM_succ, ← List.append_assoc, mksM_app i n m, ← Nat.add_assoc, mksM_succ i 0 (n + m), Nat.zero_add]

set_option maxHeartbeats 2000000 in
theorem markM_any (w : World) {i f n : Nat} (hi : i ≤ 1000) (hf : f ≤ 10000000) (hn : n ≤ 1000000) :
    Calls Tryz.prog 128 #[.int .i64 i, .int .i64 f, .int .i64 n] w fun e w' => ∃ (a : Option Addr) (cap : Nat), e = .returned (.slice a n cap) ∧ Own kM w' a cap (mksM i f n) ∧ (∀ g, blkOf a = some g → w.heap.size ≤ g) ∧ Chg [] w w' := by
  go_enter Tryz.func128, Tryz.ntmps128
  go_wp2_with fail
  go_loopg [7, 8] n (fun q s7 s8 wr => ∃ (j : Nat) (a : Option Addr) (cap : Nat), j ≤ n ∧ q = n - j ∧ s8 = .int .i64 ((f + j : Nat) : Int) ∧ s7 = .slice a j cap ∧ Own kM wr a cap (mksM i f j) ∧ (∀ g, blkOf a = some g → w.heap.size ≤ g) ∧ Chg [] w wr)
  case atStart => exact ⟨0, none, 0, Nat.zero_le _, rfl, by simp, rfl, Own.nil _ _, by simp [blkOf], Chg.refl _ _⟩
  case round =>
    obtain ⟨j, a, cap, hj, rfl, rfl, rfl, hO, hg, hC⟩ := hrel
    have HO := Lib.hid hO
    have HG := Lib.hid hg
    clear hO hg
    by_cases hlt : j < n
    case neg =>
      obtain rfl : j = n := by omega
      go_wp2_with fail
      go_ret
      exact ⟨a, cap, rfl, HO.out, HG.out, hC⟩
    case pos =>
      have HOK := Lib.hid (mkM_ok (i := i) (k := f + j) (by omega) (by omega))
      have HL := Lib.hid (mksM_length i f j)
      have hsw := hC.size
      have HX : Hid (∀ W : World, Src kM (W.alloc (.cells #[.int .i64 (-1 - (i : Int)), .int .u64 ((f + j : Nat) : Int), .string ⟨#[]⟩] 69)) (.slice (some ⟨W.heap.size, 0, none⟩) 1 1) [mkM i (f + j)]) := Lib.hid (fun W => src_one HOK.out (Blk.new W _ 69))
      go_wp2_with (at_builtin; refine wpList_appendK kM lawM _ rfl _ _ rfl a cap j (mksM i f j) HL.out rfl (HO.out.chg ((Chg.refl [] _).alloc _) (by simp)) (by rw [HL.out]; omega) (.slice (some ⟨_, 0, none⟩) 1 1) [mkM i (f + j)] (j + 1) rfl (HX.out _) (by simp) rfl ?_; intro a5 cap5 w5 hO5 hg5 hat5 _)
      have HO5 := Lib.hid hO5
      clear hO5
      go_roundg (n - (j + 1))
      case measure => omega
      case rel => exact ⟨j + 1, a5, cap5, by omega, rfl, by go_num, rfl, by rw [mksM_succ]; exact HO5.out, fun g hg => by
        rcases hat5 with e | e
        · rw [e] at hg; exact HG.out g hg
        · rw [e] at hg; cases hg; rw [World.size_alloc]; omega, (hC.alloc _).grown hg5 (fun g hg => .inr (HG.out g hg))⟩

end Go.Proofs.YteokjobkjmibfaaGreat
