/- The closure of Play, slices.IndexFunc and slices.DeleteFunc over events. Condition: the events can be read, and lie in a row of the call's own. -/
import Derived.Test.YteokjobkjmibfaaGreatC
import Derived.Lib.SliceRun
namespace Go.Proofs.YteokjobkjmibfaaGreat
open Go.RowKit Go.Maps

/-- whom a Gone takes away -/
def gonep (n ep cut : Int) (x : Ev) : Bool := decide (x.node = n) && decide (x.epoch = ep) && decide (cut < x.lsn)

theorem del1_gives {w : World} {eb cb : Nat} {n ep cut : Int} (h1 : w.cell? ⟨eb, 1, none⟩ = some (.int .i64 n)) (h2 : w.cell? ⟨eb, 2, none⟩ = some (.int .u64 ep)) (h3 : w.cell? ⟨cb, 0, none⟩ = some (.int .u64 cut)) (x : Ev) :
    Calls Tryz.prog 28 #[x.val, .pointer (some ⟨eb, 0, none⟩), .pointer (some ⟨cb, 0, none⟩)] w fun e w' => e = .returned (.bool (gonep n ep cut x)) ∧ Below w.heap.size w w' := by
  obtain ⟨xk, xn, xe, xl, xrs, xws, xra, xrc, xwa, xwc⟩ := x
  have l1 := lt_of_cell h1
  have l3 := lt_of_cell h3
  simp only [Ev.val]
  unfold gonep
  simp only at l1 l3 ⊢
  by_cases q1 : xn = n
  · by_cases q2 : xe = ep
    · by_cases q3 : cut < xl
      · go_enter Tryz.func28, Tryz.ntmps28
        go_wp2_with fail
        go_ret
        exact ⟨by simp [q1, q2, q3], (Below.refl _ w).alloc (Nat.le_refl _) _⟩
      · go_enter Tryz.func28, Tryz.ntmps28
        go_wp2_with fail
        go_ret
        exact ⟨by simp [q1, q2, q3], (Below.refl _ w).alloc (Nat.le_refl _) _⟩
    · go_enter Tryz.func28, Tryz.ntmps28
      go_wp2_with fail
      go_ret
      exact ⟨by simp [q1, q2], (Below.refl _ w).alloc (Nat.le_refl _) _⟩
  · go_enter Tryz.func28, Tryz.ntmps28
    go_wp2_with fail
    go_ret
    exact ⟨by simp [q1], (Below.refl _ w).alloc (Nat.le_refl _) _⟩

/-! ### an array of cells that holds events -/
/-- the k-th event of the array -/
def EvAt (cur : Array Value) (k : Nat) (e : Ev) : Prop := cur[k * 6]? = some (.int .i64 e.kind) ∧ cur[k * 6 + 1]? = some (.int .i64 e.node) ∧ cur[k * 6 + 2]? = some (.int .u64 e.epoch) ∧ cur[k * 6 + 3]? = some (.int .u64 e.lsn) ∧
  cur[k * 6 + 4]? = some (.slice e.ra e.rs.length e.rc) ∧ cur[k * 6 + 5]? = some (.slice e.wa e.ws.length e.wc)

/-- the cells of e, laid at the k-th place -/
def putEv (cur : Array Value) (k : Nat) (e : Ev) : Array Value :=
  (((((cur.setIfInBounds (k * 6) (.int .i64 e.kind)).setIfInBounds (k * 6 + 1) (.int .i64 e.node)).setIfInBounds (k * 6 + 2) (.int .u64 e.epoch)).setIfInBounds (k * 6 + 3) (.int .u64 e.lsn)).setIfInBounds (k * 6 + 4) (.slice e.ra e.rs.length e.rc)).setIfInBounds (k * 6 + 5) (.slice e.wa e.ws.length e.wc)

theorem size_putEv (cur : Array Value) (k : Nat) (e : Ev) : (putEv cur k e).size = cur.size := by simp [putEv]

theorem get_putEv (cur : Array Value) (k : Nat) (e : Ev) (i : Nat) (hi : i < k * 6 ∨ k * 6 + 6 ≤ i) : (putEv cur k e)[i]? = cur[i]? := by
  unfold putEv
  rw [Array.getElem?_setIfInBounds_ne (by omega), Array.getElem?_setIfInBounds_ne (by omega), Array.getElem?_setIfInBounds_ne (by omega), Array.getElem?_setIfInBounds_ne (by omega), Array.getElem?_setIfInBounds_ne (by omega), Array.getElem?_setIfInBounds_ne (by omega)]

theorem EvAt.other {cur : Array Value} {j : Nat} {x : Ev} (h : EvAt cur j x) {k : Nat} (e : Ev) (hk : j ≠ k) : EvAt (putEv cur k e) j x := by
  obtain ⟨h0, h1, h2, h3, h4, h5⟩ := h
  exact ⟨(get_putEv _ _ _ _ (by omega)).trans h0, (get_putEv _ _ _ _ (by omega)).trans h1, (get_putEv _ _ _ _ (by omega)).trans h2, (get_putEv _ _ _ _ (by omega)).trans h3, (get_putEv _ _ _ _ (by omega)).trans h4, (get_putEv _ _ _ _ (by omega)).trans h5⟩

theorem EvAt.put {cur : Array Value} {k : Nat} (e : Ev) (hk : k * 6 + 6 ≤ cur.size) : EvAt (putEv cur k e) k e := by
  unfold EvAt putEv
  refine ⟨?_, ?_, ?_, ?_, ?_, ?_⟩
  · rw [Array.getElem?_setIfInBounds_ne (by omega), Array.getElem?_setIfInBounds_ne (by omega), Array.getElem?_setIfInBounds_ne (by omega), Array.getElem?_setIfInBounds_ne (by omega), Array.getElem?_setIfInBounds_ne (by omega), Array.getElem?_setIfInBounds_self_of_lt (by first | omega | (simp; omega))]
  · rw [Array.getElem?_setIfInBounds_ne (by omega), Array.getElem?_setIfInBounds_ne (by omega), Array.getElem?_setIfInBounds_ne (by omega), Array.getElem?_setIfInBounds_ne (by omega), Array.getElem?_setIfInBounds_self_of_lt (by first | omega | (simp; omega))]
  · rw [Array.getElem?_setIfInBounds_ne (by omega), Array.getElem?_setIfInBounds_ne (by omega), Array.getElem?_setIfInBounds_ne (by omega), Array.getElem?_setIfInBounds_self_of_lt (by first | omega | (simp; omega))]
  · rw [Array.getElem?_setIfInBounds_ne (by omega), Array.getElem?_setIfInBounds_ne (by omega), Array.getElem?_setIfInBounds_self_of_lt (by first | omega | (simp; omega))]
  · rw [Array.getElem?_setIfInBounds_ne (by omega), Array.getElem?_setIfInBounds_self_of_lt (by first | omega | (simp; omega))]
  · rw [Array.getElem?_setIfInBounds_self_of_lt (by first | omega | (simp; omega))]

/-- a slice of events that owns its row -/
def OwnE (w : World) (a : Option Addr) (cap : Nat) (L : List Ev) : Prop :=
  (∀ e ∈ L, e.ok) ∧ ((a = none ∧ cap = 0 ∧ L = []) ∨ ∃ g cur, a = some ⟨g, 0, none⟩ ∧ Blk w g cur 66 ∧ L.length ≤ cap ∧ cap ≤ maxLen ∧ cur.size = cap * 6 ∧ ∀ k, k < L.length → EvAt cur k (L.getD k default))

theorem OwnE.nil (w : World) : OwnE w none 0 [] := ⟨by simp, .inl ⟨rfl, rfl, rfl⟩⟩

theorem blk_cells {w : World} {g : Nat} {cur : Array Value} {t : TypeId} (hB : Blk w g cur t) {L : List Ev} (h : ∀ k, k < L.length → EvAt cur k (L.getD k default)) : EvCells w g 0 L := fun k hk => by
  obtain ⟨h0, h1, h2, h3, h4, h5⟩ := h k hk
  rw [Nat.zero_add]
  exact ⟨hB.cell _ h0, hB.cell _ h1, hB.cell _ h2, hB.cell _ h3, hB.cell _ h4, hB.cell _ h5⟩

theorem OwnE.row {w : World} {a : Option Addr} {cap : Nat} {L : List Ev} (h : OwnE w a cap L) (hl : L.length ≤ 1000000) : EvRow w a L := by
  obtain ⟨h1, ⟨rfl, rfl, rfl⟩ | ⟨g, cur, rfl, hB, h2, h3, h4, h5⟩⟩ := h
  · exact ⟨h1, hl, .inl rfl⟩
  · exact ⟨h1, hl, .inr ⟨g, 0, rfl, blk_cells hB h5⟩⟩

theorem OwnE.chg {w w' : World} {a : Option Addr} {cap : Nat} {L : List Ev} (h : OwnE w a cap L) {S : List Nat} (hc : Chg S w w') (hn : ∀ g, blkOf a = some g → g ∉ S) : OwnE w' a cap L := by
  obtain ⟨h1, h2 | ⟨g, cur, rfl, hB, r⟩⟩ := h
  · exact ⟨h1, .inl h2⟩
  · exact ⟨h1, .inr ⟨g, cur, rfl, hB.chg hc (hn g rfl), r⟩⟩

theorem OwnE.lt {w : World} {a : Option Addr} {cap : Nat} {L : List Ev} (h : OwnE w a cap L) {g : Nat} (hg : blkOf a = some g) : g < w.heap.size := by
  obtain ⟨h1, ⟨rfl, _⟩ | ⟨g', cur, rfl, hB, r⟩⟩ := h
  · cases hg
  · cases hg; exact hB.lt

/-! ### IndexFunc -/
set_option maxRecDepth 1000000 in
theorem indexEv {w : World} {eb cb : Nat} {n ep cut : Int} (h1 : w.cell? ⟨eb, 1, none⟩ = some (.int .i64 n)) (h2 : w.cell? ⟨eb, 2, none⟩ = some (.int .u64 ep)) (h3 : w.cell? ⟨cb, 0, none⟩ = some (.int .u64 cut))
    {a : Option Addr} {L : List Ev} (hL : EvRow w a L) (cap : Nat) :
    Calls Tryz.prog 101 #[.slice a L.length cap, .func (.func 28) #[] #[.pointer (some ⟨eb, 0, none⟩), .pointer (some ⟨cb, 0, none⟩)]] w fun e w' =>
      ((e = .returned (.int .i64 (-1)) ∧ ∀ x ∈ L, gonep n ep cut x = false) ∨ (∃ k : Nat, e = .returned (.int .i64 k) ∧ k < L.length ∧ (∀ x ∈ L.take k, gonep n ep cut x = false) ∧ gonep n ep cut (L.getD k default) = true)) ∧ Below w.heap.size w w' := by
  have hbig := hL.2.1
  have l1 := lt_of_cell h1
  have l3 := lt_of_cell h3
  go_enter Tryz.func101, Tryz.ntmps101
  go_wp2_with fail
  go_loopg [8] L.length (fun g s8 wr => ∃ k, k ≤ L.length ∧ g = L.length - k ∧ s8 = .int .i64 k ∧ (∀ x ∈ L.take k, gonep n ep cut x = false) ∧ Below w.heap.size w wr)
  case atStart => exact ⟨0, Nat.zero_le _, rfl, rfl, by simp, Below.refl _ _⟩
  case round =>
    obtain ⟨k, hk, rfl, rfl, hA, hB⟩ := hrel
    have hC : Chg [] w wr := (Chg.refl _ w).ofBelow hB
    have HA := Lib.hid hA
    clear hA
    by_cases hlt : k < L.length
    case neg =>
      obtain rfl : k = L.length := by omega
      go_wp2_with fail
      go_ret
      exact ⟨.inl ⟨rfl, by have := HA.out; rwa [List.take_length] at this⟩, hB⟩
    case pos =>
      have hLr := hL.chgN hC (by simp)
      obtain ⟨b, o, rfl, hcs, ok⟩ := hLr.at_ hlt
      obtain ⟨d0, d1, d2, d3, d4, d5⟩ := hcs k hlt
      have hG := del1_gives ((hB.cell (p := ⟨eb, 1, none⟩) l1).trans h1) ((hB.cell (p := ⟨eb, 2, none⟩) l1).trans h2) ((hB.cell (p := ⟨cb, 0, none⟩) l3).trans h3) (L.getD k default)
      obtain ⟨x, hx⟩ : ∃ x, L.getD k default = x := ⟨_, rfl⟩
      rw [hx] at d0 d1 d2 d3 d4 d5 hG
      have HX := Lib.hid hx
      clear hx
      obtain ⟨xk, xn, xe, xl, xrs, xws, xra, xrc, xwa, xwc⟩ := x
      simp only at d0 d1 d2 d3 d4 d5
      cases hr : gonep n ep cut ⟨xk, xn, xe, xl, xrs, xws, xra, xrc, xwa, xwc⟩
      · rw [hr] at hG
        have HR := Lib.hid hr
        clear hr
        go_wp2_with fail
        refine hG.mono ?_
        rintro e w' ⟨rfl, hb⟩
        go_wp2_with fail
        go_roundg (L.length - (k + 1))
        case measure => omega
        case rel => exact ⟨k + 1, by omega, rfl, by go_num, fun y hy => by
          rw [take_step hlt, List.mem_append] at hy
          rcases hy with hy | hy
          · exact HA.out y hy
          · rw [List.mem_singleton.1 hy, HX.out, HR.out], hB.trans (hb.mono hB.size)⟩
      · rw [hr] at hG
        have HR := Lib.hid hr
        clear hr
        go_wp2_with fail
        refine hG.mono ?_
        rintro e w' ⟨rfl, hb⟩
        go_wp2_with fail
        go_ret
        exact ⟨.inr ⟨k, rfl, hlt, HA.out, by rw [HX.out, HR.out]⟩, hB.trans (hb.mono hB.size)⟩

theorem indexEv_none (fv : Value) (w : World) : Calls Tryz.prog 101 #[.slice none 0 0, fv] w fun e w' => e = .returned (.int .i64 (-1)) ∧ w = w' := by
  go_enter Tryz.func101, Tryz.ntmps101
  go_wp2_with fail
  go_loopg [8] 0 (fun g s8 wr => g = 0 ∧ s8 = .int .i64 0 ∧ w = wr)
  case atStart => exact ⟨rfl, rfl, rfl⟩
  case round =>
    obtain ⟨rfl, rfl, rfl⟩ := hrel
    go_wp2_with fail
    go_ret
    exact ⟨rfl, rfl⟩

/-! ### DeleteFunc -/
theorem Blk.some {w : World} {b : Nat} {cs : Array Value} {t : TypeId} (h : Blk w b cs t) (i : Nat) (hi : i < cs.size) : ∃ v, w.cell? ⟨b, i, none⟩ = some v :=
  ⟨cs[i], h.cell i (by simp [hi])⟩

theorem blk_setCells {g : Nat} {t : TypeId} : ∀ (vs : List Value) (o : Nat) (w : World) (cur : Array Value), Blk w g cur t →
    ∃ cur', Blk (w.setCells g o vs) g cur' t ∧ cur'.size = cur.size ∧ (∀ j, j < o → cur'[j]? = cur[j]?) ∧ Chg [g] w (w.setCells g o vs)
  | [], _, w, cur, h => ⟨cur, h, rfl, fun _ _ => rfl, Chg.refl _ _⟩
  | v :: r, o, w, cur, h => by
    obtain ⟨cur', h1, h2, h3, h4⟩ := blk_setCells r (o + 1) (w.setCell ⟨g, o, none⟩ v) _ (h.set o v)
    refine ⟨cur', h1, by rw [h2]; simp, fun j hj => ?_, ((Chg.refl [g] w).setCell ⟨g, o, none⟩ (by simp) v).trans h4⟩
    rw [h3 j (by omega), Array.getElem?_setIfInBounds_ne (by omega)]

/-- the rest of a row, cleared -/
theorem run_clearEv (w : World) {g : Nat} {cur : Array Value} (hB : Blk w g cur 66) {i n c : Nat} (hin : i < n) (hsz : n * 6 ≤ cur.size) :
    ∃ cur' w', (∀ ty, (Builtin.clear_ #[22] ty #[.slice (some ⟨g, i * 6, none⟩) (n - i) c]).run Tryz.prog w = .ok (.tuple #[]) w') ∧ Blk w' g cur' 66 ∧ cur'.size = cur.size ∧ (∀ j, j < i * 6 → cur'[j]? = cur[j]?) ∧ Chg [g] w w' := by
  obtain ⟨vs, hvs⟩ : ∃ vs, (Builtin.zeroCells #[.int .i64 0, .int .i64 0, .int .u64 0, .int .u64 0, .slice none 0 0, .slice none 0 0] (n - i)).toList = vs := ⟨_, rfl⟩
  have hl : vs.length = (n - i) * 6 := by rw [← hvs]; simp [Builtin.zeroCells]
  have h1 : ∀ v ∈ vs, v.oneCell' = true := fun v hv => by
    rw [← hvs] at hv
    simp only [Builtin.zeroCells, Array.toList_map, List.mem_map] at hv
    obtain ⟨k, _, rfl⟩ := hv
    have hk : k % (#[Value.int .i64 0, .int .i64 0, .int .u64 0, .int .u64 0, .slice none 0 0, .slice none 0 0] : Array Value).size < 6 := Nat.mod_lt _ (by simp)
    generalize k % (#[Value.int .i64 0, .int .i64 0, .int .u64 0, .int .u64 0, .slice none 0 0, .slice none 0 0] : Array Value).size = m at hk
    match m, hk with
    | 0, _ => rfl
    | 1, _ => rfl
    | 2, _ => rfl
    | 3, _ => rfl
    | 4, _ => rfl
    | 5, _ => rfl
  have hst := run_storeCells_cells (P := Tryz.prog) g (i * 6) vs 0 w (fun j hj => by
    obtain ⟨v, hv⟩ := hB.some (i * 6 + 0 + j) (by omega)
    rw [hv]; rfl) (fun j hj => hB.free _) h1
  obtain ⟨cur', b1, b2, b3, b4⟩ := blk_setCells vs (i * 6) w cur hB
  refine ⟨cur', _, fun ty => ?_, b1, b2, b3, b4⟩
  rw [Nat.add_zero] at hst
  obtain ⟨m, hm⟩ : ∃ m, n - i = m + 1 := ⟨n - i - 1, by omega⟩
  rw [hm] at hvs ⊢
  simp [Builtin.clear_, run_underlying Tryz.underlying22, Tryz.zeroValue66, Value.cells, hvs, hst]

/-- where the loop of DeleteFunc stands: K are those that are kept, the first j were looked at -/
structure DelInv (w wr : World) (g cap : Nat) (p : Ev → Bool) (L : List Ev) (j : Nat) (K : List Ev) (cur : Array Value) : Prop where
  kept : K = (L.take j).filter (fun x => !p x)
  less : K.length < j
  most : j ≤ L.length
  blk : Blk wr g cur 66
  size : cur.size = cap * 6
  fit : L.length ≤ cap
  low : ∀ k, k < K.length → EvAt cur k (K.getD k default)
  high : ∀ k, j ≤ k → k < L.length → EvAt cur k (L.getD k default)
  chg : Chg [g] w wr

theorem DelInv.drop {w wr : World} {g cap : Nat} {p : Ev → Bool} {L : List Ev} {j : Nat} {K : List Ev} {cur : Array Value} (h : DelInv w wr g cap p L j K cur) (hj : j < L.length) (hp : p (L.getD j default) = true) {w' : World} (hb : Below wr.heap.size wr w') :
    DelInv w w' g cap p L (j + 1) K cur := by
  have hc : Chg [] wr w' := (Chg.refl _ _).ofBelow hb
  refine ⟨?_, by have := h.less; omega, by omega, h.blk.chg hc (by simp), h.size, h.fit, h.low, fun k h1 h2 => h.high k (by omega) h2, h.chg.step hc (by simp)⟩
  rw [take_step hj, List.filter_append, h.kept]
  generalize L.getD j default = e at hp
  simp [hp]

theorem blk_six {w : World} {g : Nat} {cur : Array Value} (hB : Blk w g cur 66) (k : Nat) (e : Ev) :
    Blk ((((((w.setCell ⟨g, k * 6, none⟩ (.int .i64 e.kind)).setCell ⟨g, k * 6 + 1, none⟩ (.int .i64 e.node)).setCell ⟨g, k * 6 + 2, none⟩ (.int .u64 e.epoch)).setCell ⟨g, k * 6 + 3, none⟩ (.int .u64 e.lsn)).setCell ⟨g, k * 6 + 4, none⟩ (.slice e.ra e.rs.length e.rc)).setCell ⟨g, k * 6 + 5, none⟩ (.slice e.wa e.ws.length e.wc)) g (putEv cur k e) 66 :=
  (((((hB.set _ _).set _ _).set _ _).set _ _).set _ _).set _ _

theorem chg_six {S : List Nat} {a w : World} {g : Nat} (h : Chg S a w) (hg : g ∈ S ∨ a.heap.size ≤ g) (k : Nat) (e : Ev) :
    Chg S a ((((((w.setCell ⟨g, k * 6, none⟩ (.int .i64 e.kind)).setCell ⟨g, k * 6 + 1, none⟩ (.int .i64 e.node)).setCell ⟨g, k * 6 + 2, none⟩ (.int .u64 e.epoch)).setCell ⟨g, k * 6 + 3, none⟩ (.int .u64 e.lsn)).setCell ⟨g, k * 6 + 4, none⟩ (.slice e.ra e.rs.length e.rc)).setCell ⟨g, k * 6 + 5, none⟩ (.slice e.wa e.ws.length e.wc)) :=
  (((((h.setCell ⟨g, k * 6, none⟩ hg _).setCell ⟨g, k * 6 + 1, none⟩ hg _).setCell ⟨g, k * 6 + 2, none⟩ hg _).setCell ⟨g, k * 6 + 3, none⟩ hg _).setCell ⟨g, k * 6 + 4, none⟩ hg _).setCell ⟨g, k * 6 + 5, none⟩ hg _

theorem DelInv.keep {w wr : World} {g cap : Nat} {p : Ev → Bool} {L : List Ev} {j : Nat} {K : List Ev} {cur : Array Value} (h : DelInv w wr g cap p L j K cur) (hj : j < L.length) (hp : p (L.getD j default) = false) {w' : World} {e : Ev} (he : L.getD j default = e)
    (hB : Blk w' g (putEv cur K.length e) 66) (hc : Chg [g] wr w') : DelInv w w' g cap p L (j + 1) (K ++ [e]) (putEv cur K.length e) := by
  have h1 := h.less; have h2 := h.fit; have h3 := h.size
  refine ⟨?_, by simp; omega, by omega, hB, by rw [size_putEv]; exact h.size, h.fit, fun k hk => ?_, fun k h4 h5 => ?_, h.chg.trans hc⟩
  · rw [take_step hj, List.filter_append, h.kept, he]
    rw [he] at hp
    simp [hp]
  · simp only [List.length_append, List.length_singleton] at hk
    by_cases e1 : k < K.length
    · rw [show (K ++ [e]).getD k default = K.getD k default by rw [List.getD_eq_getElem?_getD, List.getD_eq_getElem?_getD, List.getElem?_append_left e1]]
      exact (h.low k e1).other e (by omega)
    · obtain rfl : k = K.length := by omega
      rw [show (K ++ [e]).getD K.length default = e by simp [List.getD]]
      exact EvAt.put e (by omega)
  · exact (h.high k (by omega) h5).other e (by omega)

set_option maxHeartbeats 1000000 in
set_option maxRecDepth 1000000 in
theorem deleteEv {w : World} {eb cb : Nat} {n ep cut : Int} (h1 : w.cell? ⟨eb, 1, none⟩ = some (.int .i64 n)) (h2 : w.cell? ⟨eb, 2, none⟩ = some (.int .u64 ep)) (h3 : w.cell? ⟨cb, 0, none⟩ = some (.int .u64 cut))
    {a : Option Addr} {L : List Ev} {cap : Nat} (hL : OwnE w a cap L) (hlen : L.length ≤ 1000000) (hne : blkOf a ≠ some eb ∧ blkOf a ≠ some cb) :
    Calls Tryz.prog 27 #[.slice a L.length cap, .func (.func 28) #[] #[.pointer (some ⟨eb, 0, none⟩), .pointer (some ⟨cb, 0, none⟩)]] w fun e w' =>
      e = .returned (.slice a (L.filter fun x => !gonep n ep cut x).length cap) ∧ OwnE w' a cap (L.filter fun x => !gonep n ep cut x) ∧ Chg (blkOf a).toList w w' := by
  have hI := indexEv h1 h2 h3 (hL.row hlen) cap
  go_enter Tryz.func27, Tryz.ntmps27
  go_wp2_with fail
  refine hI.mono ?_
  rintro e w' ⟨⟨rfl, hall⟩ | ⟨k0, rfl, hk0, hall, hdel⟩, hb⟩
  · have hf : (L.filter fun x => !gonep n ep cut x) = L := List.filter_eq_self.2 (fun x hx => by rw [hall x hx]; rfl)
    have HF := Lib.hid hf
    clear hf hall hI
    go_wp2_with fail
    go_ret
    exact ⟨by rw [HF.out]; rfl, by rw [HF.out]; exact hL.chg ((Chg.refl [] _).ofBelow hb) (by simp), (Chg.refl _ _).ofBelow hb⟩
  · obtain ⟨hok, ⟨rfl, rfl, rfl⟩ | ⟨g, cur, rfl, hB, hn, hcap, hsz, hev⟩⟩ := hL
    · simp at hk0
    · have hCb : Chg [] w w' := (Chg.refl _ _).ofBelow hb
      have hin : DelInv w w' g cap (gonep n ep cut) L (k0 + 1) (L.take k0) cur := by
        refine ⟨?_, by simp; omega, by omega, hB.chg hCb (by simp), hsz, hn, fun k hk => ?_, fun k _ h5 => hev k h5, hCb.mono (by simp)⟩
        · rw [take_step hk0, List.filter_append, List.filter_eq_self.2 (fun x hx => by rw [hall x hx]; rfl)]
          generalize L.getD k0 default = e at hdel
          simp [hdel]
        · have hk2 : k < k0 ∧ k < L.length := by rw [List.length_take] at hk; omega
          rw [show (L.take k0).getD k default = L.getD k default by rw [List.getD_eq_getElem?_getD, List.getD_eq_getElem?_getD, List.getElem?_take_of_lt hk2.1]]
          exact hev k hk2.2
      have hk0l : (L.take k0).length = k0 := by rw [List.length_take]; omega
      clear hall hdel hev hI
      have n1 := hne.1
      have n2 := hne.2
      have l1 := lt_of_cell h1
      have l3 := lt_of_cell h3
      have hnl1 : g ≠ eb := fun e => n1 (by rw [e]; rfl)
      have hnl3 : g ≠ cb := fun e => n2 (by rw [e]; rfl)
      clear hne n1 n2
      have HK := Lib.hid hk0l
      clear hk0l
      have hne1 : ((k0 : Int) == -1) = false := beq_eq_false_iff_ne.2 (by omega)
      go_wp2_with fail
      go_loopg [5, 6, 7] L.length (fun q s5 s6 _ wr => ∃ (j : Nat) (K : List Ev) (cur : Array Value), s5 = .int .i64 K.length ∧ s6 = .int .i64 j ∧ L.length - j ≤ q ∧ DelInv w wr g cap (gonep n ep cut) L j K cur)
      case atStart => exact ⟨k0 + 1, L.take k0, cur, by rw [HK.out], by go_num, by omega, hin⟩
      case round =>
        obtain ⟨j, K, cur2, rfl, rfl, hq, hI⟩ := hrel
        clear hin
        have i1 := hI.less
        have i2 := hI.most
        have i3 := hI.fit
        have i4 := hI.size
        have hgl := hI.blk.lt
        have hsw := hI.chg.size
        by_cases hlt : j < L.length
        case neg =>
          obtain rfl : j = L.length := by omega
          obtain ⟨cur3, w3, hcl, hB3, hs3, hlow3, hC3⟩ := run_clearEv wr hI.blk (i := K.length) (n := L.length) (c := cap - K.length) i1 (by omega)
          have HI := Lib.hid hI
          clear hI
          go_wp2_with fail
          go_ret
          have hI := HI.out
          have hk := hI.kept
          rw [List.take_length] at hk
          have hlow : ∀ k, k < K.length → EvAt cur3 k (K.getD k default) := fun k hk2 => by
            obtain ⟨e0, e1, e2, e3, e4, e5⟩ := hI.low k hk2
            exact ⟨(hlow3 _ (by omega)).trans e0, (hlow3 _ (by omega)).trans e1, (hlow3 _ (by omega)).trans e2, (hlow3 _ (by omega)).trans e3, (hlow3 _ (by omega)).trans e4, (hlow3 _ (by omega)).trans e5⟩
          refine ⟨by rw [← hk]; rfl, ?_, hI.chg.trans hC3⟩
          rw [← hk]
          refine ⟨fun x hx => hok x ?_, .inr ⟨g, cur3, rfl, hB3, by omega, hcap, by omega, hlow⟩⟩
          rw [hk] at hx
          exact (List.mem_filter.1 hx).1
        case pos =>
          have hev := hI.high j (Nat.le_refl _) hlt
          obtain ⟨x, hx⟩ : ∃ x, L.getD j default = x := ⟨_, rfl⟩
          rw [hx] at hev
          have c1 := (hI.chg.cell (p := ⟨eb, 1, none⟩) l1 (by simp; omega)).trans h1
          have c2 := (hI.chg.cell (p := ⟨eb, 2, none⟩) l1 (by simp; omega)).trans h2
          have c3 := (hI.chg.cell (p := ⟨cb, 0, none⟩) l3 (by simp; omega)).trans h3
          have hCa : Chg [] wr (wr.alloc (.cells #[.int .i64 x.kind, .int .i64 x.node, .int .u64 x.epoch, .int .u64 x.lsn, .slice x.ra x.rs.length x.rc, .slice x.wa x.ws.length x.wc] 66)) := (Chg.refl _ _).alloc _
          have hG := del1_gives ((hCa.cell (p := ⟨eb, 1, none⟩) (lt_of_cell c1) (by simp)).trans c1) ((hCa.cell (p := ⟨eb, 2, none⟩) (lt_of_cell c2) (by simp)).trans c2) ((hCa.cell (p := ⟨cb, 0, none⟩) (lt_of_cell c3) (by simp)).trans c3) x
          obtain ⟨xk, xn, xe, xl, xrs, xws, xra, xrc, xwa, xwc⟩ := x
          obtain ⟨d0, d1, d2, d3, d4, d5⟩ := hev
          simp only at d0 d1 d2 d3 d4 d5 hCa hG
          replace d0 := hI.blk.cell _ d0
          replace d1 := hI.blk.cell _ d1
          replace d2 := hI.blk.cell _ d2
          replace d3 := hI.blk.cell _ d3
          replace d4 := hI.blk.cell _ d4
          replace d5 := hI.blk.cell _ d5
          have HX := Lib.hid hx
          have HI := Lib.hid hI
          clear hx c1 c2 c3 h1 h2 h3 hI
          cases hr : gonep n ep cut ⟨xk, xn, xe, xl, xrs, xws, xra, xrc, xwa, xwc⟩
          · rw [hr] at hG
            have HR := Lib.hid hr
            clear hr
            go_wp2_with fail
            refine hG.mono ?_
            rintro e w4 ⟨rfl, hb4⟩
            have hB4 := (HI.out.blk.chg hCa (by simp)).chg ((Chg.refl [] _).ofBelow hb4) (by simp)
            obtain ⟨v0, e0⟩ := hB4.some (K.length * 6) (by omega)
            obtain ⟨v1, e1⟩ := hB4.some (K.length * 6 + 1) (by omega)
            obtain ⟨v2, e2⟩ := hB4.some (K.length * 6 + 2) (by omega)
            obtain ⟨v3, e3⟩ := hB4.some (K.length * 6 + 3) (by omega)
            obtain ⟨v4, e4⟩ := hB4.some (K.length * 6 + 4) (by omega)
            obtain ⟨v5, e5⟩ := hB4.some (K.length * 6 + 5) (by omega)
            have z0 := hB4.free (K.length * 6)
            have z1 := hB4.free (K.length * 6 + 1)
            have z2 := hB4.free (K.length * 6 + 2)
            have z3 := hB4.free (K.length * 6 + 3)
            have z4 := hB4.free (K.length * 6 + 4)
            have z5 := hB4.free (K.length * 6 + 5)
            have y0 : w4.cell? ⟨wr.heap.size, 0, none⟩ = some (.int .i64 xk) := by rw [hb4.cell (p := ⟨wr.heap.size, 0, none⟩) (by simp)]; simp
            have y1 : w4.cell? ⟨wr.heap.size, 1, none⟩ = some (.int .i64 xn) := by rw [hb4.cell (p := ⟨wr.heap.size, 1, none⟩) (by simp)]; simp
            have y2 : w4.cell? ⟨wr.heap.size, 2, none⟩ = some (.int .u64 xe) := by rw [hb4.cell (p := ⟨wr.heap.size, 2, none⟩) (by simp)]; simp
            have y3 : w4.cell? ⟨wr.heap.size, 3, none⟩ = some (.int .u64 xl) := by rw [hb4.cell (p := ⟨wr.heap.size, 3, none⟩) (by simp)]; simp
            have y4 : w4.cell? ⟨wr.heap.size, 4, none⟩ = some (.slice xra xrs.length xrc) := by rw [hb4.cell (p := ⟨wr.heap.size, 4, none⟩) (by simp)]; simp
            have y5 : w4.cell? ⟨wr.heap.size, 5, none⟩ = some (.slice xwa xws.length xwc) := by rw [hb4.cell (p := ⟨wr.heap.size, 5, none⟩) (by simp)]; simp
            have hC4 : Chg [g] wr w4 := (hCa.step ((Chg.refl [] _).ofBelow hb4) (by simp)).mono (by simp)
            have hI5 := HI.out.keep hlt (by rw [HX.out, HR.out]) HX.out (blk_six hB4 K.length ⟨xk, xn, xe, xl, xrs, xws, xra, xrc, xwa, xwc⟩) (chg_six hC4 (by simp) K.length ⟨xk, xn, xe, xl, xrs, xws, xra, xrc, xwa, xwc⟩)
            have HI5 := Lib.hid hI5
            clear hI5
            go_wp2_with fail
            go_roundg (L.length - (j + 1))
            case measure => omega
            case rel => exact ⟨j + 1, K ++ [⟨xk, xn, xe, xl, xrs, xws, xra, xrc, xwa, xwc⟩], putEv cur2 K.length ⟨xk, xn, xe, xl, xrs, xws, xra, xrc, xwa, xwc⟩, by rw [List.length_append]; go_num, by go_num, Nat.le_refl _, HI5.out⟩
          · rw [hr] at hG
            have HR := Lib.hid hr
            clear hr
            go_wp2_with fail
            refine hG.mono ?_
            rintro e w4 ⟨rfl, hb4⟩
            go_wp2_with fail
            go_roundg (L.length - (j + 1))
            case measure => omega
            case rel => exact ⟨j + 1, K, cur2, rfl, by go_num, Nat.le_refl _, HI.out.drop hlt (by rw [HX.out, HR.out]) (((Below.refl _ wr).alloc (Nat.le_refl _) _).trans (hb4.mono (by simp)))⟩

end Go.Proofs.YteokjobkjmibfaaGreat
