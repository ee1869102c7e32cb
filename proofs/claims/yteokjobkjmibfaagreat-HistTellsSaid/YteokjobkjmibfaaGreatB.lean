/- The functions bounds, greatest and alone of the package hist. Condition: the events can be read. -/
import Derived.Test.YteokjobkjmibfaaGreatA
namespace Go.Proofs.YteokjobkjmibfaaGreat
open Go.RowKit Go.Maps

/-- an event, and where its lists of images lie -/
structure Ev where
  kind : Int
  node : Int
  epoch : Int
  lsn : Int
  rs : List Img
  ws : List Img
  ra : Option Addr
  rc : Nat
  wa : Option Addr
  wc : Nat

instance : Inhabited Ev := ⟨⟨0, 0, 0, 0, [], [], none, 0, none, 0⟩⟩
def Ev.ok (e : Ev) : Prop := wf64 e.kind ∧ wf64 e.node ∧ wfu64 e.epoch ∧ wfu64 e.lsn
def Ev.lies (w : World) (e : Ev) : Prop := ImgsAt w e.ra e.rs ∧ ImgsAt w e.wa e.ws
/-- its six cells, as a value -/
abbrev Ev.val (e : Ev) : Value := .agg #[.int .i64 e.kind, .int .i64 e.node, .int .u64 e.epoch, .int .u64 e.lsn, .slice e.ra e.rs.length e.rc, .slice e.wa e.ws.length e.wc]

/-- a row of events, from the offset o on -/
def EvCells (w : World) (b o : Nat) (L : List Ev) : Prop := ∀ k, k < L.length → w.cell? ⟨b, o + k * 6, none⟩ = some (.int .i64 (L.getD k default).kind) ∧
    w.cell? ⟨b, o + k * 6 + 1, none⟩ = some (.int .i64 (L.getD k default).node) ∧ w.cell? ⟨b, o + k * 6 + 2, none⟩ = some (.int .u64 (L.getD k default).epoch) ∧
    w.cell? ⟨b, o + k * 6 + 3, none⟩ = some (.int .u64 (L.getD k default).lsn) ∧ w.cell? ⟨b, o + k * 6 + 4, none⟩ = some (.slice (L.getD k default).ra (L.getD k default).rs.length (L.getD k default).rc) ∧
    w.cell? ⟨b, o + k * 6 + 5, none⟩ = some (.slice (L.getD k default).wa (L.getD k default).ws.length (L.getD k default).wc)

/-- a slice of events that can be read -/
def EvRow (w : World) (a : Option Addr) (L : List Ev) : Prop :=
  (∀ e ∈ L, e.ok) ∧ L.length ≤ 1000000 ∧ (L = [] ∨ ∃ b o, a = some ⟨b, o, none⟩ ∧ EvCells w b o L)

theorem getD_mem {α : Type} [Inhabited α] {L : List α} {k : Nat} (hk : k < L.length) : L.getD k default ∈ L := by
  rw [List.getD_eq_getElem?_getD, List.getElem?_eq_getElem hk]
  exact List.getElem_mem _

theorem EvRow.at_ {w : World} {a : Option Addr} {L : List Ev} (h : EvRow w a L) {k : Nat} (hk : k < L.length) : ∃ b o, a = some ⟨b, o, none⟩ ∧ EvCells w b o L ∧ (L.getD k default).ok := by
  obtain ⟨h1, _, rfl | ⟨b, o, rfl, hc⟩⟩ := h
  · simp at hk
  · exact ⟨b, o, rfl, hc, h1 _ (getD_mem hk)⟩

theorem EvCells.chg {w w' : World} {b o : Nat} {L : List Ev} (h : EvCells w b o L) {S : List Nat} (hc : Chg S w w') (hn : b ∉ S) : EvCells w' b o L := fun k hk => by
  obtain ⟨c0, c1, c2, c3, c4, c5⟩ := h k hk
  have hb := lt_of_cell c0
  exact ⟨(hc.cell (p := ⟨b, o + k * 6, none⟩) hb hn).trans c0, (hc.cell (p := ⟨b, o + k * 6 + 1, none⟩) hb hn).trans c1, (hc.cell (p := ⟨b, o + k * 6 + 2, none⟩) hb hn).trans c2,
    (hc.cell (p := ⟨b, o + k * 6 + 3, none⟩) hb hn).trans c3, (hc.cell (p := ⟨b, o + k * 6 + 4, none⟩) hb hn).trans c4, (hc.cell (p := ⟨b, o + k * 6 + 5, none⟩) hb hn).trans c5⟩

theorem EvRow.chg {w w' : World} {a : Option Addr} {L : List Ev} (h : EvRow w a L) {S : List Nat} (hc : Chg S w w') (hn : ∀ g, blkOf a = some g → g ∉ S) : EvRow w' a L := by
  obtain ⟨h1, h2, rfl | ⟨b, o, rfl, h3⟩⟩ := h
  · exact ⟨h1, h2, .inl rfl⟩
  · exact ⟨h1, h2, .inr ⟨b, o, rfl, h3.chg hc (hn b rfl)⟩⟩

theorem EvRow.take {w : World} {a : Option Addr} {L : List Ev} (h : EvRow w a L) (n : Nat) : EvRow w a (L.take n) := by
  obtain ⟨h1, h2, rfl | ⟨b, o, rfl, h3⟩⟩ := h
  · exact ⟨by simp, by simp, .inl (by simp)⟩
  · refine ⟨fun e he => h1 e (List.mem_of_mem_take he), by simp; omega, .inr ⟨b, o, rfl, fun k hk => ?_⟩⟩
    have hk2 : k < n ∧ k < L.length := by rw [List.length_take] at hk; omega
    have : (L.take n).getD k default = L.getD k default := by rw [List.getD_eq_getElem?_getD, List.getD_eq_getElem?_getD, List.getElem?_take_of_lt hk2.1]
    rw [this]
    exact h3 k hk2.2

/-- what bounds counts: one event more -/
def bstep (n ep : Int) (p : Int × Int) (e : Ev) : Int × Int :=
  if e.node = n ∧ e.epoch = ep then (if e.kind = 2 then (max p.1 e.lsn, p.2) else if e.kind = 1 then (p.1, max p.2 e.lsn) else p) else p
def bnd (n ep : Int) (L : List Ev) : Int × Int := L.foldl (bstep n ep) (0, 0)

theorem bstep_range {n ep : Int} {p : Int × Int} {e : Ev} (h : 0 ≤ p.1 ∧ p.1 ≤ 18446744073709551615 ∧ 0 ≤ p.2 ∧ p.2 ≤ 18446744073709551615) (he : wfu64 e.lsn) : 0 ≤ (bstep n ep p e).1 ∧ (bstep n ep p e).1 ≤ 18446744073709551615 ∧ 0 ≤ (bstep n ep p e).2 ∧ (bstep n ep p e).2 ≤ 18446744073709551615 := by
  have hl : 0 ≤ e.lsn ∧ e.lsn ≤ 18446744073709551615 := by
    unfold wfu64 at he
    simp only [Lit.wf, IntKind.min, IntKind.max, IntKind.signed, IntKind.bits, Bool.and_eq_true] at he
    simp at he; omega
  unfold bstep
  split
  · split
    · simp only; omega
    · split
      · simp only; omega
      · exact h
  · exact h

theorem take_step {α : Type} [Inhabited α] {L : List α} {k : Nat} (hk : k < L.length) : L.take (k + 1) = L.take k ++ [L.getD k default] := by
  rw [List.take_add_one, List.getElem?_eq_getElem hk, List.getD_eq_getElem?_getD, List.getElem?_eq_getElem hk]
  rfl

theorem range64 {x : Int} (h : wf64 x) : -9223372036854775808 ≤ x ∧ x ≤ 9223372036854775807 := by
  unfold wf64 at h
  simp only [Lit.wf, IntKind.min, IntKind.max, IntKind.signed, IntKind.bits, Bool.and_eq_true, decide_eq_true_eq, if_true] at h
  omega
theorem rangeu64 {x : Int} (h : wfu64 x) : 0 ≤ x ∧ x ≤ 18446744073709551615 := by
  unfold wfu64 at h
  simp only [Lit.wf, IntKind.min, IntKind.max, IntKind.signed, IntKind.bits, Bool.and_eq_true] at h
  simp at h; omega

set_option maxHeartbeats 1000000 in
set_option maxRecDepth 1000000 in
theorem bounds_any {w : World} {a : Option Addr} {L : List Ev} (h : EvRow w a L) {at_ : Nat} (ha : at_ < L.length) (cap : Nat) (hcap : L.length ≤ cap) :
    Calls Tryz.prog 22 #[.slice a L.length cap, .int .i64 at_] w fun e w' => e = .returned (.tuple #[.int .u64 (bnd (L.getD at_ default).node (L.getD at_ default).epoch (L.take at_)).1,
      .int .u64 (max (bnd (L.getD at_ default).node (L.getD at_ default).epoch (L.take at_)).1 (bnd (L.getD at_ default).node (L.getD at_ default).epoch (L.take at_)).2)]) ∧ Below w.heap.size w w' := by
  have hbig := h.2.1
  have hoks := h.1
  obtain ⟨b, o, rfl, hc, ok⟩ := h.at_ ha
  have hbl := lt_of_cell (hc at_ ha).1
  obtain ⟨c0, c1, c2, c3, c4, c5⟩ := hc at_ ha
  generalize L.getD at_ default = g at c0 c1 c2 c3 c4 c5 ok ⊢
  obtain ⟨gk, gn, ge, gl, grs, gws, gra, grc, gwa, gwc⟩ := g
  simp only at c0 c1 c2 c3 c4 c5 ⊢
  clear ok h
  go_enter Tryz.func22, Tryz.ntmps22
  go_wp2_with fail
  have hC0 : Chg [] w (w.alloc (.cells #[.int .i64 gk, .int .i64 gn, .int .u64 ge, .int .u64 gl, .slice gra grs.length grc, .slice gwa gws.length gwc] 66)) := (Chg.refl _ w).alloc _
  go_loopg [7, 8, 19] at_ (fun m s7 s8 s19 wr => ∃ (k : Nat) (p : Int × Int), k ≤ at_ ∧ m = at_ - k ∧ s19 = .int .i64 k ∧ p = bnd gn ge (L.take k) ∧ s7 = .int .u64 p.1 ∧ s8 = .int .u64 p.2 ∧ (0 ≤ p.1 ∧ p.1 ≤ 18446744073709551615 ∧ 0 ≤ p.2 ∧ p.2 ≤ 18446744073709551615) ∧
    Chg [] w wr ∧ wr.cell? ⟨w.heap.size, 1, none⟩ = some (.int .i64 gn) ∧ wr.cell? ⟨w.heap.size, 2, none⟩ = some (.int .u64 ge))
  case atStart => exact ⟨0, (0, 0), Nat.zero_le _, rfl, rfl, rfl, rfl, rfl, by simp, hC0, by simp, by simp⟩
  case round =>
    obtain ⟨k, p, hk, rfl, rfl, hp, rfl, rfl, hrange, hC, g1, g2⟩ := hrel
    have hgl := lt_of_cell g1
    clear hC0
    by_cases hlt : k < at_
    case neg =>
      obtain rfl : k = at_ := by omega
      obtain ⟨p1, p2⟩ := p
      have HP := Lib.hid hp
      clear hp
      go_wp2_with fail
      go_ret2
      exact ⟨by rw [← HP.out]; rfl, hC.below (Nat.le_refl _) (by simp)⟩
    case pos =>
      obtain ⟨p1, p2⟩ := p
      obtain ⟨d0, d1, d2, d3, d4, d5⟩ := (hc.chg hC (by simp)) k (by omega)
      have hst : bnd gn ge (L.take (k + 1)) = bstep gn ge (bnd gn ge (L.take k)) (L.getD k default) := by
        unfold bnd
        rw [take_step (by omega), List.foldl_append]
        rfl
      have hrange2 := bstep_range (n := gn) (ep := ge) hrange (hoks _ (getD_mem (L := L) (k := k) (by omega))).2.2.2
      rw [← hp] at hst
      have hok := hoks _ (getD_mem (L := L) (k := k) (by omega))
      generalize L.getD k default = e at d0 d1 d2 d3 d4 d5 hst hok hrange2
      obtain ⟨ek, en, ee, el, ers, ews, era, erc, ewa, ewc⟩ := e
      simp only at d0 d1 d2 d3 d4 d5
      obtain ⟨ok1, ok2, ok3, ok4⟩ := hok
      have r1 := range64 ok1; have r2 := range64 ok2; have r3 := rangeu64 ok3; have r4 := rangeu64 ok4
      clear ok1 ok2 ok3 ok4
      simp only at r1 r2 r3 r4 hrange
      by_cases q : en = gn ∧ ee = ge
      case neg =>
        by_cases q1 : en = gn
        · have q2 : ¬ ee = ge := fun h => q ⟨q1, h⟩
          have hb : bstep gn ge (p1, p2) ⟨ek, en, ee, el, ers, ews, era, erc, ewa, ewc⟩ = (p1, p2) := by unfold bstep; rw [if_neg q]
          rw [hb] at hst hrange2
          have HST := Lib.hid hst
          have HR := Lib.hid hrange2
          clear hst hp hb hrange2
          go_wp2_with fail
          go_roundg (at_ - (k + 1))
          case measure => omega
          case rel => exact ⟨k + 1, (p1, p2), by omega, rfl, by go_num, HST.out.symm, rfl, rfl, HR.out, hC.alloc _, (((Chg.refl [] wr).alloc _).cell (p := ⟨w.heap.size, 1, none⟩) hgl (by simp)).trans g1, (((Chg.refl [] wr).alloc _).cell (p := ⟨w.heap.size, 2, none⟩) hgl (by simp)).trans g2⟩
        · skip
          have hb : bstep gn ge (p1, p2) ⟨ek, en, ee, el, ers, ews, era, erc, ewa, ewc⟩ = (p1, p2) := by unfold bstep; rw [if_neg q]
          rw [hb] at hst hrange2
          have HST := Lib.hid hst
          have HR := Lib.hid hrange2
          clear hst hp hb hrange2
          go_wp2_with fail
          go_roundg (at_ - (k + 1))
          case measure => omega
          case rel => exact ⟨k + 1, (p1, p2), by omega, rfl, by go_num, HST.out.symm, rfl, rfl, HR.out, hC.alloc _, (((Chg.refl [] wr).alloc _).cell (p := ⟨w.heap.size, 1, none⟩) hgl (by simp)).trans g1, (((Chg.refl [] wr).alloc _).cell (p := ⟨w.heap.size, 2, none⟩) hgl (by simp)).trans g2⟩
      case pos =>
        obtain ⟨q1, q2⟩ := q
        by_cases k2 : ek = 2
        · skip
          have hb : bstep gn ge (p1, p2) ⟨ek, en, ee, el, ers, ews, era, erc, ewa, ewc⟩ = (max p1 el, p2) := by unfold bstep; rw [if_pos ⟨q1, q2⟩, if_pos k2]
          rw [hb] at hst hrange2
          have HST := Lib.hid hst
          have HR := Lib.hid hrange2
          clear hst hp hb hrange2
          go_wp2_with fail
          go_roundg (at_ - (k + 1))
          case measure => omega
          case rel => exact ⟨k + 1, (max p1 el, p2), by omega, rfl, by go_num, HST.out.symm, rfl, rfl, HR.out, hC.alloc _, (((Chg.refl [] wr).alloc _).cell (p := ⟨w.heap.size, 1, none⟩) hgl (by simp)).trans g1, (((Chg.refl [] wr).alloc _).cell (p := ⟨w.heap.size, 2, none⟩) hgl (by simp)).trans g2⟩
        · by_cases k1 : ek = 1
          · skip
            have hb : bstep gn ge (p1, p2) ⟨ek, en, ee, el, ers, ews, era, erc, ewa, ewc⟩ = (p1, max p2 el) := by unfold bstep; rw [if_pos ⟨q1, q2⟩, if_neg k2, if_pos k1]
            rw [hb] at hst hrange2
            have HST := Lib.hid hst
            have HR := Lib.hid hrange2
            clear hst hp hb hrange2
            go_wp2_with fail
            go_roundg (at_ - (k + 1))
            case measure => omega
            case rel => exact ⟨k + 1, (p1, max p2 el), by omega, rfl, by go_num, HST.out.symm, rfl, rfl, HR.out, hC.alloc _, (((Chg.refl [] wr).alloc _).cell (p := ⟨w.heap.size, 1, none⟩) hgl (by simp)).trans g1, (((Chg.refl [] wr).alloc _).cell (p := ⟨w.heap.size, 2, none⟩) hgl (by simp)).trans g2⟩
          · skip
            have hb : bstep gn ge (p1, p2) ⟨ek, en, ee, el, ers, ews, era, erc, ewa, ewc⟩ = (p1, p2) := by unfold bstep; rw [if_pos ⟨q1, q2⟩, if_neg k2, if_neg k1]
            rw [hb] at hst hrange2
            have HST := Lib.hid hst
            have HR := Lib.hid hrange2
            clear hst hp hb hrange2
            go_wp2_with fail
            go_roundg (at_ - (k + 1))
            case measure => omega
            case rel => exact ⟨k + 1, (p1, p2), by omega, rfl, by go_num, HST.out.symm, rfl, rfl, HR.out, hC.alloc _, (((Chg.refl [] wr).alloc _).cell (p := ⟨w.heap.size, 1, none⟩) hgl (by simp)).trans g1, (((Chg.refl [] wr).alloc _).cell (p := ⟨w.heap.size, 2, none⟩) hgl (by simp)).trans g2⟩

end Go.Proofs.YteokjobkjmibfaaGreat
