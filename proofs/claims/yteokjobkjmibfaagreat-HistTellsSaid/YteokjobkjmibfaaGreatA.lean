/- The methods reads and write of an array of blocks, and what they call: what is written of a block last is what is read. Condition: at most a million writes. -/
import Derived.Test.YteokjobkjmibfaaGreatK
import Derived.Test.YteokjobkjmibfaaGreatShelf
import Derived.BigQuiet
import Derived.Deep.DeepCutAuto
import Derived.Deep.LoopGhost
namespace Go.Proofs.YteokjobkjmibfaaGreat
open Go.RowKit Go.Maps

theorem lt_of_cell {w : World} {a : Addr} {v : Value} (h : w.cell? a = some v) : a.block < w.heap.size := by
  unfold World.cell? at h
  split at h
  · exact lt_of_block (by assumption)
  · cases h

theorem Chg.cell {S : List Nat} {a w : World} (h : Chg S a w) {p : Addr} (hp : p.block < a.heap.size) (hn : p.block ∉ S) : w.cell? p = a.cell? p :=
  World.cell?_of_block (w := a) (h.block p.block hp hn)

/-- an image of a block -/
structure Img where
  block : Int
  ver : Int
  data : Str

instance : Inhabited Img := ⟨⟨0, 0, ⟨#[]⟩⟩⟩

def Img.ok (i : Img) : Prop := wf64 i.block ∧ wfu64 i.ver ∧ i.data.size ≤ 1000000

/-- a slice of images that can be read -/
def ImgsAt (w : World) (a : Option Addr) (L : List Img) : Prop :=
  (∀ i ∈ L, i.ok) ∧ L.length ≤ 1000000 ∧ (L = [] ∨ ∃ b o, a = some ⟨b, o, none⟩ ∧ ∀ k, k < L.length → w.cell? ⟨b, o + k * 3, none⟩ = some (.int .i64 (L.getD k default).block) ∧
    w.cell? ⟨b, o + k * 3 + 1, none⟩ = some (.int .u64 (L.getD k default).ver) ∧ w.cell? ⟨b, o + k * 3 + 2, none⟩ = some (.string (L.getD k default).data))

theorem ImgsAt.at_ {w : World} {a : Option Addr} {L : List Img} (h : ImgsAt w a L) {k : Nat} (hk : k < L.length) : ∃ b o, a = some ⟨b, o, none⟩ ∧ w.cell? ⟨b, o + k * 3, none⟩ = some (.int .i64 (L.getD k default).block) ∧
    w.cell? ⟨b, o + k * 3 + 1, none⟩ = some (.int .u64 (L.getD k default).ver) ∧ w.cell? ⟨b, o + k * 3 + 2, none⟩ = some (.string (L.getD k default).data) ∧ (L.getD k default).ok := by
  obtain ⟨h1, _, rfl | ⟨b, o, rfl, hc⟩⟩ := h
  · simp at hk
  · obtain ⟨c0, c1, c2⟩ := hc k hk
    refine ⟨b, o, rfl, c0, c1, c2, h1 _ ?_⟩
    rw [List.getD_eq_getElem?_getD, List.getElem?_eq_getElem hk]
    exact List.getElem_mem _

/-- the block in which a slice's row lies -/
def blkOf (a : Option Addr) : Option Nat := a.map (·.block)

theorem ImgsAt.chg {w w' : World} {a : Option Addr} {L : List Img} (h : ImgsAt w a L) {S : List Nat} (hc : Chg S w w') (hn : ∀ g, blkOf a = some g → g ∉ S) : ImgsAt w' a L := by
  obtain ⟨h1, h2, rfl | ⟨b, o, rfl, h3⟩⟩ := h
  · exact ⟨h1, h2, .inl rfl⟩
  · refine ⟨h1, h2, .inr ⟨b, o, rfl, fun k hk => ?_⟩⟩
    obtain ⟨c0, c1, c2⟩ := h3 k hk
    have hb := lt_of_cell c0
    have hns := hn b rfl
    exact ⟨(hc.cell (p := ⟨b, o + k * 3, none⟩) hb hns).trans c0, (hc.cell (p := ⟨b, o + k * 3 + 1, none⟩) hb hns).trans c1, (hc.cell (p := ⟨b, o + k * 3 + 2, none⟩) hb hns).trans c2⟩

theorem SMap.noCell {w : World} {b n : Nat} {f : Arr} (h : SMap w b n f) (p : Addr) (hp : p.block = b) : w.cell? p = none := by
  obtain ⟨D, ⟨es, clock, hb, _⟩, _⟩ := h
  subst hp
  simp [World.cell?, hb]

theorem ImgsAt.chgM {w w' : World} {a : Option Addr} {L : List Img} (h : ImgsAt w a L) {bm n : Nat} {f : Arr} (hm : SMap w bm n f) (hc : Chg [bm] w w') : ImgsAt w' a L := by
  obtain ⟨h1, h2, rfl | ⟨b, o, rfl, h3⟩⟩ := h
  · exact ⟨h1, h2, .inl rfl⟩
  · cases L with
    | nil => exact ⟨h1, h2, .inl rfl⟩
    | cons i r =>
      refine ImgsAt.chg ⟨h1, h2, .inr ⟨b, o, rfl, h3⟩⟩ hc (fun g hg => ?_)
      cases hg
      have c0 := (h3 0 (by simp)).1
      intro hm2
      simp at hm2
      have := hm.noCell ⟨b, o + 0 * 3, none⟩ hm2
      rw [this] at c0; cases c0

theorem ImgsAt.lt {w : World} {a : Option Addr} {L : List Img} (h : ImgsAt w a L) (hl : 0 < L.length) : ∀ g, blkOf a = some g → g < w.heap.size := by
  intro g hg
  obtain ⟨b, o, rfl, c0, _⟩ := h.at_ hl
  cases hg
  exact lt_of_cell c0

/-- what writing makes of an array -/
def Arr.write (f : Arr) (L : List Img) : Arr := L.foldl (fun f i => upd f i.block i.data) f

set_option maxHeartbeats 1000000 in
set_option maxRecDepth 1000000 in
theorem write_any {w : World} {bm n : Nat} {f : Arr} (h : SMap w bm n f) {a : Option Addr} {L : List Img} (hL : ImgsAt w a L) (hn : n ≤ 1000000000) (cap : Nat) :
    Calls Tryz.prog 25 #[.map (some bm), .slice a L.length cap] w fun e w' => e = .returned (.tuple #[]) ∧ SMap w' bm (n + L.length) (f.write L) ∧ Chg [bm] w w' := by
  have hbig := hL.2.1
  go_enter Tryz.func25, Tryz.ntmps25
  go_wp2_with fail
  go_loopg [8] L.length (fun g s8 wr => ∃ k, k ≤ L.length ∧ g = L.length - k ∧ s8 = .int .i64 k ∧ SMap wr bm (n + k) (f.write (L.take k)) ∧ Chg [bm] w wr)
  case atStart => exact ⟨0, Nat.zero_le _, rfl, rfl, h, Chg.refl _ _⟩
  case round =>
    obtain ⟨k, hk, rfl, rfl, hM, hC⟩ := hrel
    by_cases hlt : k < L.length
    case neg =>
      obtain rfl : k = L.length := by omega
      rw [List.take_length] at hM
      go_wp2_with fail
      go_end0
      exact ⟨rfl, hM, hC⟩
    case pos =>
      have hLr := hL.chgM h hC
      obtain ⟨b, o, rfl, c0, c1, c2, ok⟩ := hLr.at_ hlt
      have hst : f.write (L.take (k + 1)) = upd (f.write (L.take k)) (L.getD k default).block (L.getD k default).data := by
        unfold Arr.write
        rw [List.take_add_one, List.foldl_append, List.getElem?_eq_getElem hlt, List.getD_eq_getElem?_getD, List.getElem?_eq_getElem hlt]
        rfl
      generalize L.getD k default = im at c0 c1 c2 ok hst
      obtain ⟨bl, ve, da⟩ := im
      obtain ⟨ok1, ok2, ok3⟩ := ok
      have HST := Lib.hid hst
      clear hst
      have hlen : n + k < maxLen := by unfold maxLen; omega
      have ok4 : da.size ≤ maxLen := Nat.le_trans ok3 (by unfold maxLen; omega)
      go_wp2_with (at_mapUpdate; refine wpList_store_S _ rfl _ _ _ rfl bm (n + k) (f.write (L.take k)) rfl (hM.alloc _) hlen bl da rfl rfl ok1 ok4 ?_; intro w1 hM1 ht)
      go_roundg (L.length - (k + 1))
      case measure => omega
      case rel => exact ⟨k + 1, by omega, rfl, by go_num, by rw [HST.out]; exact hM1, (hC.alloc _).turned ht (by simp)⟩

/-! ### zero, and reads -/
def zero96 : Str := ⟨(Lib.repeatL [0] 96).toArray⟩

theorem zero_any (w : World) : Calls Tryz.prog 100 #[] w fun e w' => e = .returned (.string zero96) ∧ Below w.heap.size w w' := by
  have hR : Calls Tryz.prog 136 #[.string ⟨#[0]⟩, .int .i64 96] w fun e w' => e = .returned (.string zero96) ∧ Below w.heap.size w w' := Tryz.strings_Repeat ⟨#[0]⟩ 96 w (by omega) (by decide)
  go_enter Tryz.func100, Tryz.ntmps100
  go_wp2_with (go_at_call 136; refine hR.mono ?_; rintro e w' ⟨rfl, hb⟩)
  go_ret
  exact ⟨rfl, hb⟩

/-- what an array has of a block -/
def Arr.has (f : Arr) (k : Int) : Str := (f k).getD zero96
/-- is an image what an array has? -/
def Arr.right (f : Arr) (i : Img) : Bool := (f.has i.block).toList == i.data.toList

/-- the closure of reads -/
theorem reads1_gives {w : World} {bm n cb : Nat} {f : Arr} (h : SMap w bm n f) (hc : w.cell? ⟨cb, 0, none⟩ = some (.map (some bm))) (i : Img) (hi : i.ok) :
    Calls Tryz.prog 99 #[.agg #[.int .i64 i.block, .int .u64 i.ver, .string i.data], .pointer (some ⟨cb, 0, none⟩)] w fun e w' => e = .returned (.bool (!f.right i)) ∧ Below w.heap.size w w' := by
  obtain ⟨bl, ve, da⟩ := i
  obtain ⟨ok1, ok2, ok3⟩ := hi
  have hz := zero_any (w.alloc (.cells #[.int .i64 bl, .int .u64 ve, .string da] 69))
  have hca : (w.alloc (.cells #[.int .i64 bl, .int .u64 ve, .string da] 69)).cell? ⟨cb, 0, none⟩ = some (.map (some bm)) := by
    rw [World.cell?_of_block (w := w) (Below.heap_alloc _ _ _ (lt_of_cell hc))]; exact hc
  have hma := h.alloc (.cells #[.int .i64 bl, .int .u64 ve, .string da] 69)
  cases hf : f bl with
  | none =>
    have hr : (!f.right ⟨bl, ve, da⟩) = !(zero96.toList == da.toList) := by unfold Arr.right Arr.has; rw [hf]; rfl
    rw [hr]
    have hs1 : (f bl).isSome = false := by rw [hf]; rfl
    clear hf hr
    go_enter Tryz.func99, Tryz.ntmps99
    go_wp2_with (at_lookup; refine wpList_lookup_S _ rfl _ _ rfl bm n f rfl hma bl rfl ok1 ?_; rw [hs1])
    refine hz.mono ?_
    rintro e w' ⟨rfl, hb⟩
    have c2 : w'.cell? ⟨w.heap.size, 2, none⟩ = some (.string da) := by rw [hb.cell (p := ⟨w.heap.size, 2, none⟩) (by simp)]; simp
    go_wp2_with fail
    go_ret
    exact ⟨rfl, ((Below.refl _ w).alloc (Nat.le_refl _) _).trans (hb.mono (by simp))⟩
  | some c =>
    have hr : (!f.right ⟨bl, ve, da⟩) = !(c.toList == da.toList) := by unfold Arr.right Arr.has; rw [hf]; rfl
    rw [hr]
    have hs1 : (f bl).isSome = true := by rw [hf]; rfl
    have hs2 : (f bl).getD ⟨#[]⟩ = c := by rw [hf]; rfl
    clear hf hr
    go_enter Tryz.func99, Tryz.ntmps99
    go_wp2_with (at_lookup; refine wpList_lookup_S _ rfl _ _ rfl bm n f rfl hma bl rfl ok1 ?_; rw [hs1, hs2])
    go_ret
    exact ⟨rfl, (Below.refl _ w).alloc (Nat.le_refl _) _⟩

/-- slices.IndexFunc over images, as reads calls it -/
theorem indexImg {w : World} {bm n cb : Nat} {f : Arr} (h : SMap w bm n f) (hc : w.cell? ⟨cb, 0, none⟩ = some (.map (some bm))) {a : Option Addr} {L : List Img} (hL : ImgsAt w a L) (cap : Nat) :
    Calls Tryz.prog 135 #[.slice a L.length cap, .func (.func 99) #[] #[.pointer (some ⟨cb, 0, none⟩)]] w fun e w' => (∃ i : Int, e = .returned (.int .i64 i) ∧ (0 ≤ i ↔ L.all f.right = false)) ∧ Below w.heap.size w w' := by
  have hbig := hL.2.1
  go_enter Tryz.func135, Tryz.ntmps135
  go_wp2_with fail
  go_loopg [8] L.length (fun g s8 wr => ∃ k, k ≤ L.length ∧ g = L.length - k ∧ s8 = .int .i64 k ∧ (L.take k).all f.right = true ∧ Below w.heap.size w wr)
  case atStart => exact ⟨0, Nat.zero_le _, rfl, rfl, rfl, Below.refl _ _⟩
  case round =>
    obtain ⟨k, hk, rfl, rfl, hA, hB⟩ := hrel
    have hC : Chg [] w wr := (Chg.refl _ w).ofBelow hB
    by_cases hlt : k < L.length
    case neg =>
      obtain rfl : k = L.length := by omega
      rw [List.take_length] at hA
      go_wp2_with fail
      go_ret
      exact ⟨⟨-1, rfl, by rw [hA]; simp⟩, hB⟩
    case pos =>
      have hLr := hL.chg hC (by simp)
      obtain ⟨b, o, rfl, c0, c1, c2, ok⟩ := hLr.at_ hlt
      have hG := reads1_gives (h.chg hC (by simp)) ((hC.cell (p := ⟨cb, 0, none⟩) (lt_of_cell hc) (by simp)).trans hc) (L.getD k default) ok
      have hst : (L.take (k + 1)).all f.right = ((L.take k).all f.right && f.right (L.getD k default)) := by
        rw [List.take_add_one, List.all_append, List.getElem?_eq_getElem hlt, List.getD_eq_getElem?_getD, List.getElem?_eq_getElem hlt]
        simp
      have hall : f.right (L.getD k default) = false → L.all f.right = false := fun h0 => by
        rw [List.all_eq_false]
        refine ⟨L.getD k default, ?_, by rw [h0]; simp⟩
        rw [List.getD_eq_getElem?_getD, List.getElem?_eq_getElem hlt]
        exact List.getElem_mem _
      generalize L.getD k default = im at c0 c1 c2 ok hst hG hall
      obtain ⟨bl, ve, da⟩ := im
      cases hr : f.right ⟨bl, ve, da⟩
      · have hall2 := hall hr
        rw [hr] at hG
        clear hst hr hall
        go_wp2_with fail
        refine hG.mono ?_
        rintro e w' ⟨rfl, hb⟩
        go_wp2_with fail
        go_ret
        exact ⟨⟨k, rfl, by rw [hall2]; simp⟩, hB.trans (hb.mono hB.size)⟩
      · rw [hr] at hG hst
        rw [hA] at hst
        have HST := Lib.hid hst
        clear hst hr hall hA
        go_wp2_with fail
        refine hG.mono ?_
        rintro e w' ⟨rfl, hb⟩
        go_wp2_with fail
        go_roundg (L.length - (k + 1))
        case measure => omega
        case rel => exact ⟨k + 1, by omega, rfl, by go_num, HST.out, hB.trans (hb.mono hB.size)⟩

theorem reads_any {w : World} {bm n : Nat} {f : Arr} (h : SMap w bm n f) {a : Option Addr} {L : List Img} (hL : ImgsAt w a L) (cap : Nat) :
    Calls Tryz.prog 24 #[.map (some bm), .slice a L.length cap] w fun e w' => e = .returned (.bool (L.all f.right)) ∧ Below w.heap.size w w' := by
  have hw1 : Chg [] w (w.alloc (.cells #[.map (some bm)] 75)) := (Chg.refl _ w).alloc _
  have hI := indexImg (h.chg hw1 (by simp)) (cb := w.heap.size) (by simp) (hL.chg hw1 (by simp)) cap
  have hI2 : Calls Tryz.prog 98 #[.slice a L.length cap, .func (.func 99) #[] #[.pointer (some ⟨w.heap.size, 0, none⟩)]] (w.alloc (.cells #[.map (some bm)] 75)) fun e w' => e = .returned (.bool (!L.all f.right)) ∧ Below w.heap.size w w' := by
    go_enter Tryz.func98, Tryz.ntmps98
    go_wp2_with fail
    refine hI.mono ?_
    rintro e w' ⟨⟨i, rfl, hi⟩, hb⟩
    have hBel := ((Below.refl _ w).alloc (Nat.le_refl _) (.cells #[.map (some bm)] 75)).trans (hb.mono (by simp))
    cases hall : L.all f.right
    · have hd : decide (0 ≤ i) = true := by simp; exact hi.2 hall
      clear hi
      go_wp2_with fail
      go_ret
      exact ⟨by rw [hall]; rfl, hBel⟩
    · have hd : decide (0 ≤ i) = false := by simp; rw [hall] at hi; simp at hi; omega
      clear hi
      go_wp2_with fail
      go_ret
      exact ⟨by rw [hall]; rfl, hBel⟩
  go_enter Tryz.func24, Tryz.ntmps24
  go_wp2_with fail
  refine hI2.mono ?_
  rintro e w' ⟨rfl, hb⟩
  go_wp2_with fail
  go_ret
  exact ⟨by simp, hb⟩

end Go.Proofs.YteokjobkjmibfaaGreat
