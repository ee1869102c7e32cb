/- Are events few and short enough? The functions Room, Light and Small. Condition: the events can be read, of whatever size. -/
import Derived.Test.YteokjobkjmibfaaGreatBz
namespace Go.Proofs.YteokjobkjmibfaaGreat
open Go.RowKit Go.Maps

/-- a slice of images that can be read, of whatever size -/
def ImgsW (w : World) (a : Option Addr) (L : List Img) : Prop :=
  (∀ i ∈ L, wf64 i.block ∧ wfu64 i.ver ∧ i.data.size ≤ maxLen) ∧ L.length ≤ maxLen ∧ (L = [] ∨ ∃ b o, a = some ⟨b, o, none⟩ ∧ ∀ k, k < L.length → w.cell? ⟨b, o + k * 3, none⟩ = some (.int .i64 (L.getD k default).block) ∧
    w.cell? ⟨b, o + k * 3 + 1, none⟩ = some (.int .u64 (L.getD k default).ver) ∧ w.cell? ⟨b, o + k * 3 + 2, none⟩ = some (.string (L.getD k default).data))
/-- a slice of events that can be read, of whatever size -/
def EvRowW (w : World) (a : Option Addr) (L : List Ev) : Prop :=
  (∀ e ∈ L, e.ok) ∧ L.length ≤ maxLen ∧ (L = [] ∨ ∃ b o, a = some ⟨b, o, none⟩ ∧ EvCells w b o L) ∧ ∀ e ∈ L, ImgsW w e.ra e.rs ∧ ImgsW w e.wa e.ws

theorem ImgsW.chgN {w w' : World} {a : Option Addr} {L : List Img} (h : ImgsW w a L) (hc : Chg [] w w') : ImgsW w' a L := by
  obtain ⟨h1, h2, rfl | ⟨b, o, rfl, h3⟩⟩ := h
  · exact ⟨h1, h2, .inl rfl⟩
  · refine ⟨h1, h2, .inr ⟨b, o, rfl, fun k hk => ?_⟩⟩
    obtain ⟨c0, c1, c2⟩ := h3 k hk
    exact ⟨(hc.cell (lt_of_cell c0) (by simp)).trans c0, (hc.cell (lt_of_cell c1) (by simp)).trans c1, (hc.cell (lt_of_cell c2) (by simp)).trans c2⟩
def ImgsW.light (L : List Img) : Prop := L.length ≤ 12 ∧ ∀ i ∈ L, i.data.size ≤ 1500
theorem ImgsW.imgs {w : World} {a : Option Addr} {L : List Img} (h : ImgsW w a L) (hl : ImgsW.light L) : ImgsAt w a L :=
  ⟨fun i hi => ⟨(h.1 i hi).1, (h.1 i hi).2.1, by have := hl.2 i hi; omega⟩, by have := hl.1; omega, h.2.2⟩

def RoomPost (w : World) (left s : Int) (e : Ending) (w' : World) : Prop := ∃ r : Int, e = .returned (.int .i64 r) ∧ -1 ≤ r ∧ r ≤ 1500 ∧ (0 ≤ r → 0 ≤ left ∧ s ≤ left) ∧ w = w'

set_option maxHeartbeats 1000000 in
theorem room_any {w : World} {b : Nat} {left s : Int} (hc : w.cell? ⟨b, 0, none⟩ = some (.int .i64 s)) (h0 : -1 ≤ left) (h1 : left ≤ 1500) (h2 : 0 ≤ s) :
    Calls Tryz.prog 97 #[.int .i64 left, .slice (some ⟨b, 0, none⟩) 1 1] w (RoomPost w left s) := by
  have hbad : RoomPost w left s (.returned (.int .i64 (-1))) w := ⟨-1, rfl, by omega, by omega, by omega, rfl⟩
  have HBAD := Lib.hid hbad
  clear hbad
  by_cases g1 : left < 0
  · go_enter Tryz.func97, Tryz.ntmps97
    go_wp2_with fail
    go_loopg [0, 5] 1 (fun q s0 s5 wr => q = 1 ∧ s0 = .int .i64 left ∧ s5 = .int .i64 0 ∧ w = wr)
    case atStart => exact ⟨rfl, rfl, rfl, rfl⟩
    case round =>
      obtain ⟨rfl, rfl, rfl, rfl⟩ := hrel
      go_wp2_with fail
      go_ret
      exact HBAD.out
  · by_cases g2 : left < s
    · go_enter Tryz.func97, Tryz.ntmps97
      go_wp2_with fail
      go_loopg [0, 5] 1 (fun q s0 s5 wr => q = 1 ∧ s0 = .int .i64 left ∧ s5 = .int .i64 0 ∧ w = wr)
      case atStart => exact ⟨rfl, rfl, rfl, rfl⟩
      case round =>
        obtain ⟨rfl, rfl, rfl, rfl⟩ := hrel
        go_wp2_with fail
        go_ret
        exact HBAD.out
    · have HG : Hid (RoomPost w left s (.returned (.int .i64 (left - s))) w) := Lib.hid ⟨left - s, rfl, by omega, by omega, by omega, rfl⟩
      go_enter Tryz.func97, Tryz.ntmps97
      go_wp2_with fail
      go_loopg [0, 5] 2 (fun q s0 s5 wr => ∃ k : Nat, k ≤ 1 ∧ q = 2 - k ∧ s5 = .int .i64 k ∧ s0 = .int .i64 (if k = 0 then left else left - s) ∧ w = wr)
      case atStart => exact ⟨0, by omega, rfl, rfl, by simp, rfl⟩
      case round =>
        obtain ⟨k, hk, rfl, rfl, rfl, rfl⟩ := hrel
        by_cases hk0 : k = 0
        · subst hk0
          rw [if_pos rfl]
          go_wp2_with fail
          go_roundg 1
          case measure => omega
          case rel => exact ⟨1, by omega, rfl, rfl, by simp, rfl⟩
        · obtain rfl : k = 1 := by omega
          rw [if_neg hk0]
          go_wp2_with fail
          go_ret
          exact HG.out

def LightPost (w : World) (L : List Img) (e : Ending) (w' : World) : Prop := ∃ b : Bool, e = .returned (.bool b) ∧ (b = true → ImgsW.light L) ∧ Chg [] w w'

set_option maxHeartbeats 4000000 in
set_option maxRecDepth 1000000 in
theorem light_any {w : World} {a : Option Addr} {L : List Img} (h : ImgsW w a L) (cap : Nat) :
    Calls Tryz.prog 20 #[.int .i64 12, .int .i64 1500, .slice a L.length cap] w (LightPost w L) := by
  have H := Lib.hid h
  by_cases h12 : 12 < L.length
  case pos =>
    have HF : Hid (LightPost w L (.returned (.bool false)) w) := Lib.hid ⟨false, rfl, by simp, Chg.refl _ _⟩
    clear h
    go_enter Tryz.func20, Tryz.ntmps20
    go_wp2_with fail
    go_ret
    exact HF.out
  case neg =>
    clear h
    go_enter Tryz.func20, Tryz.ntmps20
    go_wp2_with fail
    go_loopg [1, 7] L.length (fun q s1 s7 wr => ∃ (k : Nat) (r : Int), k ≤ L.length ∧ q = L.length - k ∧ s7 = .int .i64 k ∧ s1 = .int .i64 r ∧ -1 ≤ r ∧ r ≤ 1500 ∧ (0 ≤ r → ∀ j, j < k → (L.getD j default).data.size ≤ 1500) ∧ Chg [] w wr)
    case atStart => exact ⟨0, 1500, Nat.zero_le _, rfl, rfl, rfl, by omega, by omega, fun _ j hj => by omega, Chg.refl _ _⟩
    case round =>
      obtain ⟨k, r, hk, rfl, rfl, rfl, hr0, hr1, hall, hC⟩ := hrel
      have HALL := Lib.hid hall
      clear hall
      by_cases hr : 0 ≤ r
      case neg =>
        have HF : Hid (LightPost w L (.returned (.bool false)) wr) := Lib.hid ⟨false, rfl, by simp, hC⟩
        by_cases hlt : k < L.length
        · go_wp2_with fail
          go_ret
          exact HF.out
        · go_wp2_with fail
          go_ret
          exact HF.out
      case pos =>
        by_cases hlt : k < L.length
        case neg =>
          obtain rfl : k = L.length := by omega
          have HT : Hid (LightPost w L (.returned (.bool true)) wr) := Lib.hid ⟨true, rfl, fun _ => ⟨by omega, fun i hi => by
            obtain ⟨j, hj, rfl⟩ := List.mem_iff_getElem.1 hi
            have := HALL.out hr j hj
            rwa [List.getD_eq_getElem?_getD, List.getElem?_eq_getElem hj] at this⟩, hC⟩
          go_wp2_with fail
          go_ret
          exact HT.out
        case pos =>
          have hW := H.out.chgN hC
          have hok := hW.1 _ (getD_mem hlt)
          rcases hW.2.2 with h0 | ⟨b, o, rfl, hcs⟩
          · rw [h0] at hlt; simp at hlt
          obtain ⟨c0, c1, c2⟩ := hcs k hlt
          have HIM : Hid (∀ j, j < k + 1 → (j < k ∨ j = k)) := Lib.hid (fun j hj => by omega)
          obtain ⟨im, him⟩ : ∃ im, L.getD k default = im := ⟨_, rfl⟩
          rw [him] at c2 hok
          have HI := Lib.hid him
          obtain ⟨ib, iv, idt⟩ := im
          simp only at c2 hok
          have e1 : (0 : Int) ≤ (k : Int) := by omega
          have e2 : (k : Int) < (L.length : Int) := by omega
          have hB1 := Blk.new wr #[.int .i64 (idt.size : Int)] 3
          have hRm := room_any (b := wr.heap.size) (left := r) (s := (idt.size : Int)) (hB1.cell 0 rfl) hr0 hr1 (by omega)
          clear him hW hcs c0 c1 hok hB1
          go_wp2_with fail
          refine hRm.mono ?_
          rintro e w1 ⟨r1, rfl, h10, h11, h12', rfl⟩
          have HALL1 : Hid (0 ≤ r1 → ∀ j, j < k + 1 → (L.getD j default).data.size ≤ 1500) := Lib.hid (fun h0 j hj => by
            obtain ⟨g1, g2⟩ := h12' h0
            rcases HIM.out j hj with h | rfl
            · exact HALL.out g1 j h
            · rw [HI.out]; simp only; omega)
          clear h12' hRm
          go_wp2_with fail
          go_roundg (L.length - (k + 1))
          case measure => omega
          case rel => exact ⟨k + 1, r1, by omega, rfl, by go_num, rfl, h10, h11, HALL1.out, hC.alloc _⟩

def SmallPost (w : World) (L : List Ev) (e : Ending) (w' : World) : Prop := ∃ b : Bool, e = .returned (.bool b) ∧ (b = true → L.length ≤ 210 ∧ ∀ x ∈ L, ImgsW.light x.rs ∧ ImgsW.light x.ws) ∧ Chg [] w w'

set_option maxHeartbeats 4000000 in
set_option maxRecDepth 1000000 in
theorem small_any {w : World} {a : Option Addr} {L : List Ev} (h : EvRowW w a L) (cap : Nat) :
    Calls Tryz.prog 4 #[.slice a L.length cap] w (SmallPost w L) := by
  have H := Lib.hid h
  clear h
  go_enter Tryz.func4, Tryz.ntmps4
  go_wp2_with fail
  go_loopg [3] L.length (fun q s3 wr => ∃ k : Nat, k ≤ L.length ∧ k ≤ 300 ∧ q = L.length - k ∧ s3 = .int .i64 k ∧ (∀ j, j < k → ImgsW.light (L.getD j default).rs ∧ ImgsW.light (L.getD j default).ws) ∧ Chg [] w wr)
  case atStart => exact ⟨0, Nat.zero_le _, by omega, rfl, rfl, fun j hj => by omega, Chg.refl _ _⟩
  case round =>
    obtain ⟨k, hk, hk3, rfl, rfl, hall, hC⟩ := hrel
    have HALL := Lib.hid hall
    clear hall
    have HF : Hid (SmallPost w L (.returned (.bool false)) wr) := Lib.hid ⟨false, rfl, by simp, hC⟩
    by_cases hlt : k < L.length
    case neg =>
      obtain rfl : k = L.length := by omega
      by_cases h210 : L.length ≤ 210
      · have HT : Hid (SmallPost w L (.returned (.bool true)) wr) := Lib.hid ⟨true, rfl, fun _ => ⟨h210, fun x hx => by
          obtain ⟨j, hj, rfl⟩ := List.mem_iff_getElem.1 hx
          have := HALL.out j hj
          rwa [List.getD_eq_getElem?_getD, List.getElem?_eq_getElem hj] at this⟩, hC⟩
        have hd : decide ((L.length : Int) ≤ 210) = true := by simp; omega
        go_wp2_with fail
        go_ret
        exact HT.out
      · have hd : decide ((L.length : Int) ≤ 210) = false := by simp; omega
        go_wp2_with fail
        go_ret
        exact HF.out
    case pos =>
      by_cases h300 : k < 300
      case neg =>
        have hd : decide ((L.length : Int) ≤ 210) = false := by simp; omega
        go_wp2_with fail
        go_ret
        exact HF.out
      case pos =>
        obtain ⟨_, _, hrow, hims⟩ := H.out
        rcases hrow with h0 | ⟨b, o, rfl, hcs⟩
        · rw [h0] at hlt; simp at hlt
        obtain ⟨c0, c1, c2, c3, c4, c5⟩ := hcs k hlt
        have hi := hims _ (getD_mem hlt)
        obtain ⟨x, hx⟩ : ∃ x, L.getD k default = x := ⟨_, rfl⟩
        rw [hx] at c4 c5 hi
        have HX := Lib.hid hx
        obtain ⟨xk, xn, xe, xl, xrs, xws, xra, xrc, xwa, xwc⟩ := x
        simp only at c4 c5 hi
        have d4 := (hC.cell (lt_of_cell c4) (by simp)).trans c4
        have d5 := (hC.cell (lt_of_cell c5) (by simp)).trans c5
        have HI := Lib.hid hi
        have e1 : (0 : Int) ≤ (k : Int) := by omega
        have e2 : (k : Int) < (L.length : Int) := by omega
        clear hx hi hcs hims c0 c1 c2 c3 c4 c5
        go_wp2_with fail
        refine (light_any (HI.out.1.chgN hC) xrc).mono ?_
        rintro e w1 ⟨b1, rfl, hb1, hC1⟩
        have f4 := (hC1.cell (lt_of_cell d4) (by simp)).trans d4
        have f5 := (hC1.cell (lt_of_cell d5) (by simp)).trans d5
        have HB1 := Lib.hid hb1
        clear hb1 d4 d5
        cases b1
        · have HF1 : Hid (SmallPost w L (.returned (.bool false)) w1) := Lib.hid ⟨false, rfl, by simp, hC.trans hC1⟩
          go_wp2_with fail
          go_ret
          exact HF1.out
        · go_wp2_with fail
          refine (light_any (HI.out.2.chgN (hC.trans hC1)) xwc).mono ?_
          rintro e w2 ⟨b2, rfl, hb2, hC2⟩
          have HB2 := Lib.hid hb2
          clear hb2 f4 f5
          cases b2
          · have HF2 : Hid (SmallPost w L (.returned (.bool false)) w2) := Lib.hid ⟨false, rfl, by simp, (hC.trans hC1).trans hC2⟩
            go_wp2_with fail
            go_ret
            exact HF2.out
          · have HALL1 : Hid (∀ j, j < k + 1 → ImgsW.light (L.getD j default).rs ∧ ImgsW.light (L.getD j default).ws) := Lib.hid (fun j hj => by
              by_cases e : j = k
              · rw [e, HX.out]; exact ⟨HB1.out (by simp), HB2.out (by simp)⟩
              · exact HALL.out j (by omega))
            go_wp2_with fail
            go_roundg (L.length - (k + 1))
            case measure => omega
            case rel => exact ⟨k + 1, by omega, by omega, rfl, by go_num, HALL1.out, (hC.trans hC1).trans hC2⟩

end Go.Proofs.YteokjobkjmibfaaGreat
