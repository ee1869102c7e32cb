/- The document's events of the program's, and a list with room behind it. Condition: what is handed in can be read. -/
import Derived.Test.YteokjobkjmibfaaGreatSa
import Derived.Test.YteokjobkjmibfaaGreatRj
namespace Go.Proofs.YteokjobkjmibfaaGreat
open Go.RowKit Go.Maps

set_option maxHeartbeats 8000000 in
set_option maxRecDepth 1000000 in
theorem plain_any {w : World} {a : Option Addr} {L : List Ev} (h : EvRow w a L) (hl : L.length ≤ 1000) (cap : Nat) :
    Calls Tryz.prog 6 #[.slice a L.length cap] w fun e w' => ∃ (a' : Option Addr) (cap' : Nat), e = .returned (.slice a' L.length cap') ∧ OwnR w' a' cap' L ∧ (∀ g, blkOf a' = some g → w.heap.size ≤ g) ∧ Chg [] w w' := by
  have H := Lib.hid h
  clear h
  go_enter Tryz.func6, Tryz.ntmps6
  go_wp2_with fail
  go_loopg [3, 4] L.length (fun q s3 s4 wr => ∃ (k : Nat) (a2 : Option Addr) (cap2 : Nat), k ≤ L.length ∧ q = L.length - k ∧ s4 = .int .i64 k ∧ s3 = .slice a2 k cap2 ∧ OwnR wr a2 cap2 (L.take k) ∧ (∀ g, blkOf a2 = some g → w.heap.size ≤ g) ∧ Chg [] w wr)
  case atStart => exact ⟨0, none, 0, Nat.zero_le _, rfl, rfl, rfl, OwnR.nil _, by simp [blkOf], Chg.refl _ _⟩
  case round =>
    obtain ⟨k, a2, cap2, hk, rfl, rfl, rfl, hO, hn, hC⟩ := hrel
    have HO := Lib.hid hO
    have HN := Lib.hid hn
    clear hO hn
    by_cases hlt : k < L.length
    case neg =>
      obtain rfl : k = L.length := by omega
      have HO2 : Hid (OwnR wr a2 cap2 L) := Lib.hid (by have := HO.out; rwa [List.take_length] at this)
      go_wp2_with fail
      go_ret
      exact ⟨a2, cap2, rfl, HO2.out, HN.out, hC⟩
    case pos =>
      obtain ⟨b, o, rfl, hcs6, hok⟩ := H.out.at_ hlt
      obtain ⟨d0, d1, d2, d3, d4, d5⟩ := hcs6 k hlt
      have hst := take_step hlt
      have htl : (L.take k).length = k := by rw [List.length_take]; omega
      generalize L.getD k default = x at d0 d1 d2 d3 d4 d5 hok hst
      obtain ⟨xk, xn, xe, xl, xrs, xws, xra, xrc, xwa, xwc⟩ := x
      simp only at d0 d1 d2 d3 d4 d5
      have c0 := (hC.cell (lt_of_cell d0) (by simp)).trans d0
      have c1 := (hC.cell (lt_of_cell d1) (by simp)).trans d1
      have c2 := (hC.cell (lt_of_cell d2) (by simp)).trans d2
      have c3 := (hC.cell (lt_of_cell d3) (by simp)).trans d3
      have c4 := (hC.cell (lt_of_cell d4) (by simp)).trans d4
      have c5 := (hC.cell (lt_of_cell d5) (by simp)).trans d5
      have D0 := Lib.hid d0
      have D1 := Lib.hid d1
      have D2 := Lib.hid d2
      have D3 := Lib.hid d3
      have D4 := Lib.hid d4
      have D5 := Lib.hid d5
      have HST := Lib.hid hst
      have HTL := Lib.hid htl
      have HOK := Lib.hid hok
      have e1 : (0 : Int) ≤ (k : Int) := by omega
      have e2 : (k : Int) < (L.length : Int) := by omega
      have HO1 : Hid (OwnR (wr.drew.alloc (.cells #[.int .i64 xk, .int .i64 xn, .int .u64 xe, .int .u64 xl, .slice xra xrs.length xrc, .slice xwa xws.length xwc] 71)) a2 cap2 (L.take k)) := Lib.hid (HO.out.chg ((Chg.refl [] wr).drew.alloc _) (by simp))
      have HO2 : Hid (OwnR (wr.alloc (.cells #[.int .i64 xk, .int .i64 xn, .int .u64 xe, .int .u64 xl, .slice xra xrs.length xrc, .slice xwa xws.length xwc] 71)).drew a2 cap2 (L.take k)) := Lib.hid (HO.out.chg (((Chg.refl [] wr).alloc _).drew) (by simp))
      have HS1 : Hid (∀ r, r < 6 → (wr.drew.alloc (.cells #[.int .i64 xk, .int .i64 xn, .int .u64 xe, .int .u64 xl, .slice xra xrs.length xrc, .slice xwa xws.length xwc] 71)).cell? ⟨wr.heap.size, r, none⟩ = (Ev.six ⟨xk, xn, xe, xl, xrs, xws, xra, xrc, xwa, xwc⟩)[r]?) := Lib.hid (six_at (Blk.newAt wr.drew #[.int .i64 xk, .int .i64 xn, .int .u64 xe, .int .u64 xl, .slice xra xrs.length xrc, .slice xwa xws.length xwc] 71 rfl) rfl)
      have HS2 : Hid (∀ r, r < 6 → (wr.alloc (.cells #[.int .i64 xk, .int .i64 xn, .int .u64 xe, .int .u64 xl, .slice xra xrs.length xrc, .slice xwa xws.length xwc] 71)).drew.cell? ⟨wr.heap.size, r, none⟩ = (Ev.six ⟨xk, xn, xe, xl, xrs, xws, xra, xrc, xwa, xwc⟩)[r]?) := Lib.hid (six_at (Blk.newDrew wr #[.int .i64 xk, .int .i64 xn, .int .u64 xe, .int .u64 xl, .slice xra xrs.length xrc, .slice xwa xws.length xwc] 71 rfl) rfl)
      clear d0 d1 d2 d3 d4 d5 hst htl hok hcs6
      go_wp2_with fail
      go_region_held3 (fun w' => w'.cell? ⟨b, o + k * 6, none⟩ = some (.int .i64 xk) ∧ w'.cell? ⟨b, o + k * 6 + 1, none⟩ = some (.int .i64 xn) ∧ w'.cell? ⟨b, o + k * 6 + 2, none⟩ = some (.int .u64 xe) ∧ w'.cell? ⟨b, o + k * 6 + 3, none⟩ = some (.int .u64 xl) ∧ w'.cell? ⟨b, o + k * 6 + 4, none⟩ = some (.slice xra xrs.length xrc) ∧ w'.cell? ⟨b, o + k * 6 + 5, none⟩ = some (.slice xwa xws.length xwc))
        (first
          | (refine ⟨(hC5.cell (lt_of_cell D0.out) (by simp)).trans D0.out, (hC5.cell (lt_of_cell D1.out) (by simp)).trans D1.out, (hC5.cell (lt_of_cell D2.out) (by simp)).trans D2.out, (hC5.cell (lt_of_cell D3.out) (by simp)).trans D3.out, (hC5.cell (lt_of_cell D4.out) (by simp)).trans D4.out, (hC5.cell (lt_of_cell D5.out) (by simp)).trans D5.out⟩)
          | go_keep)
        (first
          | ((refine step_appendRn _ (by rfl) _ _ (by rfl) a2 cap2 k (L.take k) HTL.out (by rfl) (by first | exact HO1.out | exact HO2.out) (by rw [HTL.out]; omega) wr.heap.size 1 ⟨xk, xn, xe, xl, xrs, xws, xra, xrc, xwa, xwc⟩ HOK.out (by rfl) (by first | exact HS1.out | exact HS2.out) ?_; intro a5 cap5 w5 hO5 hg5 hat5; have hC5 : Chg [] w w5 := (by first | exact ((hC.alloc _).drew).grown hg5 (fun g hg => .inr (HN.out g hg)) | exact (hC.drew.alloc _).grown hg5 (fun g hg => .inr (HN.out g hg)))))
          | (fail))
      all_goals
        have HO5 := Lib.hid hO5
        have hsz := hC.size
        have HN5 : Hid (∀ g, blkOf a5 = some g → w.heap.size ≤ g) := Lib.hid (fun g hg => by
          rcases hat5 with e | e
          · rw [e] at hg; exact HN.out g hg
          · rw [e] at hg
            have : wr.heap.size + 1 = g := by simpa using hg
            omega)
        clear hO5 hg5 hat5
        go_wp2_with fail
        go_roundg (L.length - (k + 1))
        case measure => omega
        case rel => exact ⟨k + 1, a5, cap5, by omega, rfl, by go_num, rfl, by rw [HST.out]; exact HO5.out, HN5.out, hC5⟩

/-- a list of numbers with room behind it, in which a mark stands -/
structure Lent (w : World) (g cap : Nat) (C : List Int) : Prop where
  rd : Rd kN w (some ⟨g, 0, none⟩) C
  mark : w.cell? ⟨g, C.length, none⟩ = some (.int .u64 77)
  room : C.length + 1 ≤ cap
theorem Lent.chg0 {w w' : World} {g cap : Nat} {C : List Int} (h : Lent w g cap C) (hc : Chg [] w w') : Lent w' g cap C := ⟨h.rd.chg0 lawN hc, (hc.cell (lt_of_cell h.mark) (by simp)).trans h.mark, h.room⟩
theorem Lent.chg {w w' : World} {g cap : Nat} {C : List Int} (h : Lent w g cap C) {S : List Nat} (hc : Chg S w w') (hn : g ∉ S) : Lent w' g cap C := ⟨h.rd.chg lawN hc (fun g' hg => by cases hg; exact hn), (hc.cell (lt_of_cell h.mark) hn).trans h.mark, h.room⟩

theorem lentNums_any {w : World} {v : Value} {C : List Int} (h : Src kN w v C) (hl : C.length ≤ 1000) {a : Option Addr} {n cap : Nat} (hv : v = .slice a n cap) (hn : C.length = n) :
    Calls Tryz.prog 7 #[.slice a n cap] w fun e w' => ∃ (g cap' : Nat), e = .returned (.slice (some ⟨g, 0, none⟩) n cap') ∧ Lent w' g cap' C ∧ w.heap.size ≤ g ∧ Chg [] w w' := by
  subst hv
  have H := Lib.hid h
  have HN := Lib.hid hn
  have hn2 : n ≤ 1000 := by omega
  have HX : Hid (∀ W : World, Src kN (W.alloc (.cells #[.int .u64 77] 64)) (.slice (some ⟨W.heap.size, 0, none⟩) 1 1) [77]) := Lib.hid (fun W => src_one (K := kN) (x := (77 : Int)) (show wfu64 77 from wfu64_of (by omega) (by omega)) (Blk.new W _ 64))
  clear h hn
  go_enter Tryz.func7, Tryz.ntmps7
  go_wp2_with ((first
    | (at_builtin; refine wpList_appendK kN lawN _ rfl _ _ rfl none 0 0 [] rfl rfl (Own.nil _ _) (by decide) (.slice a n cap) C n rfl H.out (by omega) (by rw [HN.out]; omega) ?_; intro a5 c5 w5 hO5 hg5 hat5 hk5; have hC5 : Chg [] w w5 := (Chg.refl _ _).grown hg5 (fun g hg => by cases hg); have HO5 : Hid (Own kN w5 a5 c5 C) := Lib.hid hO5; clear hO5 hg5 hk5)
    | (at_builtin; refine wpList_appendK kN lawN _ rfl _ _ rfl a5 c5 n C HN.out rfl (HO5.out.chg ((Chg.refl [] _).alloc _) (by simp)) (by rw [HN.out]; omega) (.slice (some ⟨w5.heap.size, 0, none⟩) 1 1) [77] (n + 1) rfl (HX.out w5) (by simp) rfl ?_; intro a6 c6 w6 hO6 hg6 hat6 hk6; have HN6 : Hid (∃ g, a6 = some ⟨g, 0, none⟩ ∧ n + 1 ≤ c6) := Lib.hid (by
        rcases hO6.shape with ⟨_, _, h0⟩ | ⟨g, h1, h2⟩
        · simp at h0
        · refine ⟨g, h1, ?_⟩
          rw [List.length_append, HN.out] at h2
          exact h2); obtain ⟨g6, e6, hc6⟩ := HN6.out; subst e6; have hC6 : Chg [] w w6 := (hC5.alloc _).grown hg6 (fun g hg => .inr (by
        rcases hat5 with e | e
        · rw [e] at hg; cases hg
        · rw [e] at hg; cases hg; exact Nat.le_refl _)); have HNW : Hid (w.heap.size ≤ g6) := Lib.hid (by
        have hsz := hC5.size
        rcases hat6 with e | e
        · rcases hat5 with e5 | e5
          · rw [e5] at e; cases e
          · rw [e5] at e
            have : g6 = w.heap.size := by simpa [blkOf] using e
            omega
        · have : g6 = (w5.alloc (.cells #[.int .u64 77] 64)).heap.size := by simpa [blkOf] using e
          rw [World.size_alloc] at this
          omega); have HO6 := Lib.hid hO6; clear hO6 hg6 hk6 HN6)))
  go_ret
  refine ⟨g6, c6, rfl, ⟨.inr ⟨g6, 0, rfl, fun k hk r hr => ?_⟩, ?_, by rw [HN.out]; exact hc6⟩, HNW.out, hC6⟩
  · have h1 := (HO6.out.cells lawN).2.2 k (by rw [List.length_append]; omega) r hr
    rw [Nat.zero_add]
    rw [h1, List.getD_eq_getElem?_getD, List.getElem?_append_left hk, List.getD_eq_getElem?_getD]
  · have h1 := (HO6.out.cells lawN).2.2 C.length (by rw [List.length_append]; simp) 0 (by decide)
    rw [List.getD_eq_getElem?_getD, List.getElem?_append_right (Nat.le_refl _), Nat.sub_self] at h1
    have h2 : w6.cell? ⟨g6, C.length * 1 + 0, none⟩ = some (.int .u64 77) := h1
    rwa [Nat.mul_one, Nat.add_zero] at h2

theorem staysNums_any {w : World} {g cap : Nat} {C : List Int} (h : Lent w g cap C) {a : Option Addr} (ha : Rd kN w a C) (hl : C.length ≤ 1000) {n : Nat} (hn : C.length = n) (ca : Nat) :
    Calls Tryz.prog 16 #[.slice (some ⟨g, 0, none⟩) n cap, .slice a n ca] w fun e w' => e = .returned (.bool true) ∧ Chg [] w w' := by
  subst hn
  have H := Lib.hid h
  have HA := Lib.hid ha
  have hr := h.room
  clear h ha
  go_enter Tryz.func16, Tryz.ntmps16
  go_wp2_with fail
  refine (sameN_yes H.out.rd HA.out (by omega) cap ca).mono ?_
  rintro e w6 ⟨rfl, hC6⟩
  have hm := (H.out.chg0 hC6).mark
  have e1 : (C.length : Int) + 1 ≤ (cap : Int) := by omega
  have e2 : (0 : Int) ≤ (C.length : Int) := by omega
  go_wp2_with fail
  go_ret
  exact ⟨rfl, hC6⟩

end Go.Proofs.YteokjobkjmibfaaGreat
