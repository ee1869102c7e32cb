/- The Book: each list is marked with marks of its own. Condition: the lists are kept. Printed by wip/tools/book.py. -/
import Derived.Test.YteokjobkjmibfaaGreatBa
namespace Go.Proofs.YteokjobkjmibfaaGreat
open Go.RowKit Go.Maps

section
variable {α : Type}
theorem Own.of_blk [Inhabited α] {K : Kd α} (hK : K.Law) {w : World} {g : Nat} {cur : Array Value} {cap : Nat} {L : List α} (hB : Blk w g cur K.te) (h1 : L.length ≤ cap) (h2 : cap ≤ maxLen) (h3 : cur.size = cap * K.size) (hok : ∀ x ∈ L, K.ok x)
    (hc : ∀ k, k < L.length → ∀ r, r < K.size → cur[k * K.size + r]? = (K.cells (L.getD k default))[r]?) : Own K w (some ⟨g, 0, none⟩) cap L := by
  refine ⟨hok, flat_len _ _ hK.len L, .inr ⟨g, cap, cur, rfl, Nat.zero_le _, hB, h1, h2, h3, ?_⟩⟩
  have hle : L.length * K.size ≤ cur.size := by rw [h3]; exact Nat.mul_le_mul_right _ h1
  apply List.ext_getElem?
  intro j
  by_cases hj : j < L.length * K.size
  · have hp := hK.pos
    have hdm := Nat.div_add_mod j K.size
    have hmod : j % K.size < K.size := Nat.mod_lt _ hp
    have hdl : j / K.size < L.length := by rw [Nat.div_lt_iff_lt_mul hp]; exact hj
    have hje : j = j / K.size * K.size + j % K.size := by rw [Nat.mul_comm]; exact hdm.symm
    rw [List.getElem?_take_of_lt hj, Array.getElem?_toList]
    have h5 := hc _ hdl _ hmod
    rw [← flat_get K.cells K.size hK.len L _ _ hdl hmod, ← hje] at h5
    exact h5
  · rw [List.getElem?_eq_none (by rw [List.length_take]; exact Nat.le_trans (Nat.min_le_left _ _) (by omega)), List.getElem?_eq_none (by rw [flat_len _ _ hK.len]; omega)]
theorem Own.opened [Inhabited α] {K : Kd α} (hK : K.Law) {w : World} {g : Nat} {cap : Nat} {L : List α} (h : Own K w (some ⟨g, 0, none⟩) cap L) : ∃ cur, Blk w g cur K.te ∧ L.length ≤ cap ∧ cap ≤ maxLen ∧ cur.size = cap * K.size ∧
    ∀ k, k < L.length → ∀ r, r < K.size → cur[k * K.size + r]? = (K.cells (L.getD k default))[r]? := by
  rcases h.2.2 with ⟨he, h0⟩ | ⟨g', c, cur, he, hb, hg, h1, h2, h3, h4⟩
  · injection he with e1
    cases e1
  · cases he
    refine ⟨cur, hg, h1, h2, h3, fun k hk r hr => ?_⟩
    have hlt : k * K.size + r < L.length * K.size := by
      have h5 : (k + 1) * K.size ≤ L.length * K.size := Nat.mul_le_mul_right _ hk
      rw [Nat.add_mul] at h5
      omega
    rw [← flat_get K.cells K.size hK.len L k r hk hr, ← h4, List.getElem?_take_of_lt hlt, Array.getElem?_toList]

/-- the first k of one list, the rest of another one -/
def mix (m old : List α) (k : Nat) : List α := m.take k ++ old.drop k
theorem mix_zero (m old : List α) : mix m old 0 = old := by simp [mix]
theorem mix_all {m old : List α} (h : old.length = m.length) : mix m old m.length = m := by
  unfold mix
  rw [List.take_length, List.drop_eq_nil_of_le (by omega), List.append_nil]
theorem mix_length {m old : List α} (h : old.length = m.length) {k : Nat} (hk : k ≤ m.length) : (mix m old k).length = m.length := by
  unfold mix
  rw [List.length_append, List.length_take, List.length_drop]; omega
theorem mix_set [Inhabited α] {m old : List α} (h : old.length = m.length) {k : Nat} (hk : k < m.length) : (mix m old k).set k (m.getD k default) = mix m old (k + 1) := by
  unfold mix
  rw [List.set_append_right _ _ (by rw [List.length_take]; omega), List.length_take, Nat.min_eq_left (by omega), Nat.sub_self, List.drop_eq_getElem_cons (by omega), List.set_cons_zero, take_step hk, List.append_assoc]
  rfl
end

theorem Own.setN {w : World} {g cap : Nat} {L : List Int} (h : Own kN w (some ⟨g, 0, none⟩) cap L) {k : Nat} (hk : k < L.length) {x : Int} (hx : wfu64 x) : Own kN (w.setCell ⟨g, k, none⟩ (.int .u64 x)) (some ⟨g, 0, none⟩) cap (L.set k x) := by
  obtain ⟨cur, hB, h1, h2, h3, hc⟩ := h.opened lawN
  refine Own.of_blk lawN (hB.set k (.int .u64 x)) (by simpa using h1) h2 (by simpa using h3) (fun y hy => ?_) (fun j hj r hr => ?_)
  · rcases List.mem_or_eq_of_mem_set hy with hy | rfl
    · exact h.1 y hy
    · exact hx
  · obtain rfl : r = 0 := by simpa using hr
    have hj' : j < L.length := by simpa using hj
    have h5 := hc j hj' 0 (by decide)
    show (cur.setIfInBounds k (.int .u64 x))[j * 1 + 0]? = some (.int .u64 ((L.set k x).getD j default))
    have h5' : cur[j * 1 + 0]? = some (.int .u64 (L.getD j default)) := h5
    rw [Nat.mul_one, Nat.add_zero] at h5' ⊢
    by_cases e : j = k
    · subst e
      rw [Array.getElem?_setIfInBounds_self_of_lt (Array.getElem?_eq_some_iff.1 h5').1]
      simp [List.getD_eq_getElem?_getD, hk]
    · rw [Array.getElem?_setIfInBounds_ne (fun h => e h.symm), h5']
      simp [List.getD_eq_getElem?_getD, List.getElem?_set, Ne.symm e]
theorem Own.setM {w : World} {g cap : Nat} {L : List Img} (h : Own kM w (some ⟨g, 0, none⟩) cap L) {k : Nat} (hk : k < L.length) {x : Img} (hx : x.ok) :
    Own kM (((w.setCell ⟨g, k * 3, none⟩ (.int .i64 x.block)).setCell ⟨g, k * 3 + 1, none⟩ (.int .u64 x.ver)).setCell ⟨g, k * 3 + 2, none⟩ (.string x.data)) (some ⟨g, 0, none⟩) cap (L.set k x) := by
  obtain ⟨cur, hB, h1, h2, h3, hc⟩ := h.opened lawM
  refine Own.of_blk lawM (((hB.set (k * 3) (.int .i64 x.block)).set (k * 3 + 1) (.int .u64 x.ver)).set (k * 3 + 2) (.string x.data)) (by simpa using h1) h2 (by simpa using h3) (fun y hy => ?_) (fun j hj r hr => ?_)
  · rcases List.mem_or_eq_of_mem_set hy with hy | rfl
    · exact h.1 y hy
    · exact hx
  · have hj' : j < L.length := by simpa using hj
    have hsz : ∀ r, r < 3 → k * 3 + r < cur.size := fun r hr => by
      have h5 := hc k hk r hr
      rw [List.getElem?_eq_getElem (by rw [lawM.len]; exact hr)] at h5
      exact (Array.getElem?_eq_some_iff.1 h5).1
    have s0 := hsz 0 (by decide)
    have s1 := hsz 1 (by decide)
    have s2 := hsz 2 (by decide)
    have h5 := hc j hj' r hr
    by_cases e : j = k
    · subst e
      have hset : (L.set j x).getD j default = x := by simp [List.getD_eq_getElem?_getD, hk]
      rw [hset]
      match r, hr with
      | 0, _ => rw [Array.getElem?_setIfInBounds_ne (by simp), Array.getElem?_setIfInBounds_ne (by simp)]; exact Array.getElem?_setIfInBounds_self_of_lt (by simpa using s0)
      | 1, _ => rw [Array.getElem?_setIfInBounds_ne (by simp)]; exact Array.getElem?_setIfInBounds_self_of_lt (by simpa using s1)
      | 2, _ => exact Array.getElem?_setIfInBounds_self_of_lt (by simpa using s2)
    · have hset : (L.set k x).getD j default = L.getD j default := by simp [List.getD_eq_getElem?_getD, List.getElem?_set, Ne.symm e]
      have hr3 : r < 3 := hr
      rw [hset, ← h5]
      rw [Array.getElem?_setIfInBounds_ne (by simp; omega), Array.getElem?_setIfInBounds_ne (by simp; omega), Array.getElem?_setIfInBounds_ne (by simp; omega)]

theorem Own.cellN {w : World} {g cap : Nat} {L : List Int} (h : Own kN w (some ⟨g, 0, none⟩) cap L) {k : Nat} (hk : k < L.length) : ∃ v, w.cell? ⟨g, k, none⟩ = some v := by
  have := (h.cells lawN).2.2 k hk 0 (by decide)
  rw [Nat.mul_one, Nat.add_zero] at this
  exact ⟨_, this⟩
theorem Own.free {α : Type} {K : Kd α} {w : World} {g o cap : Nat} {L : List α} (h : Own K w (some ⟨g, o, none⟩) cap L) (k : Nat) : w.frozen? ⟨g, k, none⟩ = false := by
  obtain ⟨c, hB⟩ := h.blk rfl
  exact hB.free k

set_option maxHeartbeats 8000000 in
set_option maxRecDepth 1000000 in
theorem putN_any {w : World} {B base : Nat} {cs : Array Value} {a : Option Addr} {cap : Nat} {R : List (Lst Int)} (hB : Blk w B cs 43) (h4 : cs[4]? = some (.slice a R.length cap)) (h : RowsAt kN kNN w base a cap R) (hm : R.length ≤ 250) :
    Calls Tryz.prog 57 #[.pointer (some ⟨B, 0, none⟩)] w fun e w' => e = .returned (.tuple #[]) ∧ RowsAt kN kNN w' base a cap (markTo mksN R.length R) ∧ Chg (rowBlks R) w w' := by
  have H := Lib.hid h
  have HB := Lib.hid hB
  have H4 := Lib.hid h4
  have HNB := Lib.hid (h.notB pairN hB)
  have hc0 := hB.cell 4 h4
  have HN : Hid (∀ g, blkOf a = some g → g ∉ rowBlks R) := Lib.hid (fun g hg => h.notA pairN hg)
  have HZ : Hid (RowsAt kN kNN w base a cap (markTo mksN 0 R)) := Lib.hid (by rw [markTo_zero]; exact h)
  have HAI : Hid (∀ k, k < R.length → ∀ g, blkOf (R.getD k default).a = some g → g ∈ rowBlks R) := Lib.hid (fun k hk g hg => mem_rowBlks.2 ⟨_, getD_mem hk, hg⟩)
  clear h hB h4
  go_enter Tryz.func57, Tryz.ntmps57
  go_wp2_with fail
  go_loopg [2] R.length (fun q s2 wr => ∃ i : Nat, i ≤ R.length ∧ q = R.length - i ∧ s2 = .int .i64 i ∧ RowsAt kN kNN wr base a cap (markTo mksN i R) ∧ Chg (rowBlks R) w wr)
  case atStart => exact ⟨0, Nat.zero_le _, rfl, rfl, HZ.out, Chg.refl _ _⟩
  case round =>
    obtain ⟨i, hi, rfl, rfl, hR, hC⟩ := hrel
    have HBr := Lib.hid (HB.out.chg hC HNB.out)
    have c4 := HBr.out.cell 4 H4.out
    have HR := Lib.hid hR
    clear hc0 hR
    by_cases hlt : i < R.length
    case neg =>
      obtain rfl : i = R.length := by omega
      go_wp2_with fail
      go_end0
      exact ⟨rfl, HR.out, hC⟩
    case pos =>
      have hml : i < (markTo mksN i R).length := by rw [markTo_length]; exact hlt
      obtain ⟨g, rfl, hcap, v1⟩ := HR.out.row.val pairN hml
      rw [markTo_length] at hcap
      rw [markTo_val mksN_length hlt] at v1
      have o1 := HR.out.each _ (getD_mem hml)
      have hsh := HR.out.short _ (getD_mem hml)
      rw [markTo_get mksN i R hlt, if_neg (by omega)] at o1 hsh
      have hAI := HAI.out i hlt
      have HMK : Hid (∀ w', Own kN w' (R.getD i default).a (R.getD i default).cap (mksN i 0 (R.getD i default).L.length) → Chg (blkOf (R.getD i default).a).toList wr w' → RowsAt kN kNN w' base (some ⟨g, 0, none⟩) cap (markTo mksN (i + 1) R)) := Lib.hid (fun w' h1 h2 => HR.out.mark pairN (fun _ => trivial) mksN_length hlt h1 h2)
      generalize R.getD i default = r at v1 o1 hsh hAI HMK
      obtain ⟨ra, rc, rL⟩ := r
      simp only at o1 hsh hAI HMK
      simp only [Lst.val] at v1
      have hgR : g ∉ (blkOf ra).toList := fun hm => HN.out g rfl (hAI g (by simpa using hm))
      have hBR : B ∉ (blkOf ra).toList := fun hm => HNB.out (hAI B (by simpa using hm))
      have O1 := Lib.hid o1
      have HAI2 := Lib.hid hAI
      have HGR := Lib.hid hgR
      have HBR := Lib.hid hBR
      have HLN := Lib.hid (mksN_length i 0 rL.length)
      have e1 : (0 : Int) ≤ (i : Int) := by omega
      have e2 : (i : Int) < (R.length : Int) := by omega
      clear o1 hgR hBR hml hAI
      go_wp2_with fail
      refine (markN_0 _ (by omega) (by omega)).mono ?_
      rintro e w6 ⟨a6, c6, rfl, hO6, hn6, hC6⟩
      have HO6 := Lib.hid hO6
      have hn6' : ∀ g, blkOf a6 = some g → g ∉ (blkOf ra).toList := fun g hg hm => by
        have h1 := hn6 g hg
        have h2 := O1.out.lt (g := g) (by simpa using hm)
        omega
      have HN6 := Lib.hid hn6'
      have HI : Hid (Own kN w6 ra rc (mix (mksN i 0 rL.length) rL 0)) := Lib.hid (by rw [mix_zero]; exact O1.out.chg hC6 (by simp))
      have d4 := (hC6.cell (lt_of_cell c4) (by simp)).trans c4
      have d1 := (hC6.cell (lt_of_cell v1) (by simp)).trans v1
      clear hO6 hn6 hn6' c4 v1
      go_wp2_with fail
      go_loopg [4] rL.length (fun q s4 wx => ∃ k : Nat, k ≤ rL.length ∧ q = rL.length - k ∧ s4 = .int .i64 k ∧ Own kN wx ra rc (mix (mksN i 0 rL.length) rL k) ∧ Chg (blkOf ra).toList w6 wx)
      case atStart => exact ⟨0, Nat.zero_le _, rfl, rfl, HI.out, Chg.refl _ _⟩
      case round =>
        obtain ⟨k, hk, rfl, rfl, hO, hCx⟩ := hrel
        have HO := Lib.hid hO
        clear hO
        by_cases hkl : k < rL.length
        case neg =>
          obtain rfl : k = rL.length := by omega
          have hall : Own kN wr ra rc (mksN i 0 rL.length) := by
            have h1 := mix_all (m := mksN i 0 rL.length) (old := rL) HLN.out.symm
            rw [HLN.out] at h1
            rw [← h1]
            exact HO.out
          have HALL := Lib.hid hall
          clear hall
          go_wp2_with fail
          go_roundg (R.length - (i + 1))
          case measure => omega
          case rel => exact ⟨i + 1, by omega, rfl, by go_num, HMK.out _ HALL.out ((hC6.mono (by simp)).trans hCx), (hC.trans (hC6.mono (by simp))).trans (hCx.mono (fun g hg => .inl (HAI2.out g (by simpa using hg))))⟩
        case pos =>
          have c4 := (hCx.cell (lt_of_cell d4) HBR.out).trans d4
          have v1 := (hCx.cell (lt_of_cell d1) HGR.out).trans d1
          have hml : k < (mix (mksN i 0 rL.length) rL k).length := by rw [mix_length HLN.out.symm (by rw [HLN.out]; omega), HLN.out]; exact hkl
          obtain ⟨gm, om, rfl, m0⟩ := ((HO6.out.chg hCx HN6.out).rd lawN).atN (show k < (mksN i 0 rL.length).length by rw [HLN.out]; exact hkl)
          have hxok := HO6.out.1 _ (getD_mem (show k < (mksN i 0 rL.length).length by rw [HLN.out]; exact hkl))
          have HST := Lib.hid (mix_set (m := mksN i 0 rL.length) (old := rL) HLN.out.symm (k := k) (by rw [HLN.out]; exact hkl))
          have hset : ∀ gr, ra = some ⟨gr, 0, none⟩ → Own kN (wr.setCell ⟨gr, k, none⟩ (.int .u64 ((mksN i 0 rL.length).getD k 0))) ra rc (mix (mksN i 0 rL.length) rL (k + 1)) := fun gr e => by subst e; rw [← HST.out]; exact HO.out.setN hml hxok
          generalize (mksN i 0 rL.length).getD k 0 = x at m0 hset
          rcases HO.out.shape with ⟨rfl, _, h0⟩ | ⟨gr, rfl, hcr⟩
          · rw [h0] at hml; simp at hml
          have hset := hset gr rfl
          have HSET := Lib.hid hset
          have hmk : k * 1 < (mix (mksN i 0 rL.length) rL k).length := by rw [Nat.mul_one]; exact hml
          obtain ⟨old0, z0⟩ := HO.out.cellN hml
          have y0 := HO.out.free k
          have n1 : B ≠ gr := fun e => HBR.out (by simp [blkOf, e])
          have n2 : g ≠ gr := fun e => HGR.out (by simp [blkOf, e])
          have n3 : gm ≠ gr := fun e => HN6.out gm rfl (by simp [blkOf, e])
          have n1' := n1.symm
          have n2' := n2.symm
          have n3' := n3.symm
          rw [mix_length HLN.out.symm (by rw [HLN.out]; omega), HLN.out] at hcr
          have e3 : (0 : Int) ≤ (k : Int) := by omega
          have e4 : (k : Int) < (rL.length : Int) := by omega
          clear hset hxok hml
          clear hmk
          go_wp2_with fail
          go_region_held3 (fun w' => w'.cell? ⟨B, 4, none⟩ = some (.slice (some ⟨g, 0, none⟩) R.length cap) ∧ w'.cell? ⟨g, i, none⟩ = some (.slice (some ⟨gr, 0, none⟩) rL.length rc) ∧ w'.cell? ⟨gm, om + k, none⟩ = some (.int .u64 x))
            (go_keep) (fail)
          all_goals
            go_wp2_with fail
            go_roundg (rL.length - (k + 1))
            case measure => omega
            case rel => exact ⟨k + 1, by omega, rfl, by go_num, HSET.out, (hCx.setCell ⟨gr, k, none⟩ (.inl (by simp [blkOf])) _).drew⟩

set_option maxHeartbeats 8000000 in
set_option maxRecDepth 1000000 in
theorem putM_any {w : World} {B base : Nat} {cs : Array Value} {a : Option Addr} {cap : Nat} {R : List (Lst Img)} (hB : Blk w B cs 43) (h4 : cs[10]? = some (.slice a R.length cap)) (h : RowsAt kM kMM w base a cap R) (hm : R.length ≤ 250) :
    Calls Tryz.prog 60 #[.pointer (some ⟨B, 0, none⟩)] w fun e w' => e = .returned (.tuple #[]) ∧ RowsAt kM kMM w' base a cap (markTo mksM R.length R) ∧ Chg (rowBlks R) w w' := by
  have H := Lib.hid h
  have HB := Lib.hid hB
  have H4 := Lib.hid h4
  have HNB := Lib.hid (h.notB pairM hB)
  have hc0 := hB.cell 10 h4
  have HN : Hid (∀ g, blkOf a = some g → g ∉ rowBlks R) := Lib.hid (fun g hg => h.notA pairM hg)
  have HZ : Hid (RowsAt kM kMM w base a cap (markTo mksM 0 R)) := Lib.hid (by rw [markTo_zero]; exact h)
  have HAI : Hid (∀ k, k < R.length → ∀ g, blkOf (R.getD k default).a = some g → g ∈ rowBlks R) := Lib.hid (fun k hk g hg => mem_rowBlks.2 ⟨_, getD_mem hk, hg⟩)
  clear h hB h4
  go_enter Tryz.func60, Tryz.ntmps60
  go_wp2_with fail
  go_loopg [2] R.length (fun q s2 wr => ∃ i : Nat, i ≤ R.length ∧ q = R.length - i ∧ s2 = .int .i64 i ∧ RowsAt kM kMM wr base a cap (markTo mksM i R) ∧ Chg (rowBlks R) w wr)
  case atStart => exact ⟨0, Nat.zero_le _, rfl, rfl, HZ.out, Chg.refl _ _⟩
  case round =>
    obtain ⟨i, hi, rfl, rfl, hR, hC⟩ := hrel
    have HBr := Lib.hid (HB.out.chg hC HNB.out)
    have c4 := HBr.out.cell 10 H4.out
    have HR := Lib.hid hR
    clear hc0 hR
    by_cases hlt : i < R.length
    case neg =>
      obtain rfl : i = R.length := by omega
      go_wp2_with fail
      go_end0
      exact ⟨rfl, HR.out, hC⟩
    case pos =>
      have hml : i < (markTo mksM i R).length := by rw [markTo_length]; exact hlt
      obtain ⟨g, rfl, hcap, v1⟩ := HR.out.row.val pairM hml
      rw [markTo_length] at hcap
      rw [markTo_val mksM_length hlt] at v1
      have o1 := HR.out.each _ (getD_mem hml)
      have hsh := HR.out.short _ (getD_mem hml)
      rw [markTo_get mksM i R hlt, if_neg (by omega)] at o1 hsh
      have hAI := HAI.out i hlt
      have HMK : Hid (∀ w', Own kM w' (R.getD i default).a (R.getD i default).cap (mksM i 0 (R.getD i default).L.length) → Chg (blkOf (R.getD i default).a).toList wr w' → RowsAt kM kMM w' base (some ⟨g, 0, none⟩) cap (markTo mksM (i + 1) R)) := Lib.hid (fun w' h1 h2 => HR.out.mark pairM (fun _ => trivial) mksM_length hlt h1 h2)
      generalize R.getD i default = r at v1 o1 hsh hAI HMK
      obtain ⟨ra, rc, rL⟩ := r
      simp only at o1 hsh hAI HMK
      simp only [Lst.val] at v1
      have hgR : g ∉ (blkOf ra).toList := fun hm => HN.out g rfl (hAI g (by simpa using hm))
      have hBR : B ∉ (blkOf ra).toList := fun hm => HNB.out (hAI B (by simpa using hm))
      have O1 := Lib.hid o1
      have HAI2 := Lib.hid hAI
      have HGR := Lib.hid hgR
      have HBR := Lib.hid hBR
      have HLN := Lib.hid (mksM_length i 0 rL.length)
      have e1 : (0 : Int) ≤ (i : Int) := by omega
      have e2 : (i : Int) < (R.length : Int) := by omega
      clear o1 hgR hBR hml hAI
      go_wp2_with fail
      refine (markM_0 _ (by omega) (by omega)).mono ?_
      rintro e w6 ⟨a6, c6, rfl, hO6, hn6, hC6⟩
      have HO6 := Lib.hid hO6
      have hn6' : ∀ g, blkOf a6 = some g → g ∉ (blkOf ra).toList := fun g hg hm => by
        have h1 := hn6 g hg
        have h2 := O1.out.lt (g := g) (by simpa using hm)
        omega
      have HN6 := Lib.hid hn6'
      have HI : Hid (Own kM w6 ra rc (mix (mksM i 0 rL.length) rL 0)) := Lib.hid (by rw [mix_zero]; exact O1.out.chg hC6 (by simp))
      have d4 := (hC6.cell (lt_of_cell c4) (by simp)).trans c4
      have d1 := (hC6.cell (lt_of_cell v1) (by simp)).trans v1
      clear hO6 hn6 hn6' c4 v1
      go_wp2_with fail
      go_loopg [4] rL.length (fun q s4 wx => ∃ k : Nat, k ≤ rL.length ∧ q = rL.length - k ∧ s4 = .int .i64 k ∧ Own kM wx ra rc (mix (mksM i 0 rL.length) rL k) ∧ Chg (blkOf ra).toList w6 wx)
      case atStart => exact ⟨0, Nat.zero_le _, rfl, rfl, HI.out, Chg.refl _ _⟩
      case round =>
        obtain ⟨k, hk, rfl, rfl, hO, hCx⟩ := hrel
        have HO := Lib.hid hO
        clear hO
        by_cases hkl : k < rL.length
        case neg =>
          obtain rfl : k = rL.length := by omega
          have hall : Own kM wr ra rc (mksM i 0 rL.length) := by
            have h1 := mix_all (m := mksM i 0 rL.length) (old := rL) HLN.out.symm
            rw [HLN.out] at h1
            rw [← h1]
            exact HO.out
          have HALL := Lib.hid hall
          clear hall
          go_wp2_with fail
          go_roundg (R.length - (i + 1))
          case measure => omega
          case rel => exact ⟨i + 1, by omega, rfl, by go_num, HMK.out _ HALL.out ((hC6.mono (by simp)).trans hCx), (hC.trans (hC6.mono (by simp))).trans (hCx.mono (fun g hg => .inl (HAI2.out g (by simpa using hg))))⟩
        case pos =>
          have c4 := (hCx.cell (lt_of_cell d4) HBR.out).trans d4
          have v1 := (hCx.cell (lt_of_cell d1) HGR.out).trans d1
          have hml : k < (mix (mksM i 0 rL.length) rL k).length := by rw [mix_length HLN.out.symm (by rw [HLN.out]; omega), HLN.out]; exact hkl
          obtain ⟨gm, om, rfl, m0, m1, m2⟩ := ((HO6.out.chg hCx HN6.out).rd lawM).atM (show k < (mksM i 0 rL.length).length by rw [HLN.out]; exact hkl)
          have hxok := HO6.out.1 _ (getD_mem (show k < (mksM i 0 rL.length).length by rw [HLN.out]; exact hkl))
          have HST := Lib.hid (mix_set (m := mksM i 0 rL.length) (old := rL) HLN.out.symm (k := k) (by rw [HLN.out]; exact hkl))
          have hset : ∀ gr, ra = some ⟨gr, 0, none⟩ → Own kM (((wr.setCell ⟨gr, k * 3, none⟩ (.int .i64 ((mksM i 0 rL.length).getD k default).block)).setCell ⟨gr, k * 3 + 1, none⟩ (.int .u64 ((mksM i 0 rL.length).getD k default).ver)).setCell ⟨gr, k * 3 + 2, none⟩ (.string ((mksM i 0 rL.length).getD k default).data)) ra rc (mix (mksM i 0 rL.length) rL (k + 1)) := fun gr e => by subst e; rw [← HST.out]; exact HO.out.setM hml hxok
          generalize (mksM i 0 rL.length).getD k default = x at m0 m1 m2 hset
          obtain ⟨xb, xv, xd⟩ := x
          simp only at m0 m1 m2 hset
          rcases HO.out.shape with ⟨rfl, _, h0⟩ | ⟨gr, rfl, hcr⟩
          · rw [h0] at hml; simp at hml
          have hset := hset gr rfl
          have HSET := Lib.hid hset
          have hcl := (HO.out.cells lawM).2.2 k hml
          have z0 := hcl 0 (by decide)
          have z1 := hcl 1 (by decide)
          have z2 := hcl 2 (by decide)
          have y0 := HO.out.free (k * 3)
          have y1 := HO.out.free (k * 3 + 1)
          have y2 := HO.out.free (k * 3 + 2)
          generalize (mix (mksM i 0 rL.length) rL k).getD k default = old at z0 z1 z2
          obtain ⟨ob, ov, od⟩ := old
          have z0 : wr.cell? ⟨gr, k * 3, none⟩ = some (.int .i64 ob) := z0
          have z1 : wr.cell? ⟨gr, k * 3 + 1, none⟩ = some (.int .u64 ov) := z1
          have z2 : wr.cell? ⟨gr, k * 3 + 2, none⟩ = some (.string od) := z2
          clear hcl
          have n1 : B ≠ gr := fun e => HBR.out (by simp [blkOf, e])
          have n2 : g ≠ gr := fun e => HGR.out (by simp [blkOf, e])
          have n3 : gm ≠ gr := fun e => HN6.out gm rfl (by simp [blkOf, e])
          have n1' := n1.symm
          have n2' := n2.symm
          have n3' := n3.symm
          rw [mix_length HLN.out.symm (by rw [HLN.out]; omega), HLN.out] at hcr
          have e3 : (0 : Int) ≤ (k : Int) := by omega
          have e4 : (k : Int) < (rL.length : Int) := by omega
          clear hset hxok hml
          go_wp2_with fail
          go_region_held3 (fun w' => w'.cell? ⟨B, 10, none⟩ = some (.slice (some ⟨g, 0, none⟩) R.length cap) ∧ w'.cell? ⟨g, i, none⟩ = some (.slice (some ⟨gr, 0, none⟩) rL.length rc) ∧ w'.cell? ⟨gm, om + k * 3, none⟩ = some (.int .i64 xb) ∧ w'.cell? ⟨gm, om + k * 3 + 1, none⟩ = some (.int .u64 xv) ∧ w'.cell? ⟨gm, om + k * 3 + 2, none⟩ = some (.string xd))
            (go_keep) (fail)
          all_goals
            go_wp2_with fail
            go_roundg (rL.length - (k + 1))
            case measure => omega
            case rel => exact ⟨k + 1, by omega, rfl, by go_num, HSET.out, (((hCx.setCell ⟨gr, k * 3, none⟩ (.inl (by simp [blkOf])) _).setCell ⟨gr, k * 3 + 1, none⟩ (.inl (by simp [blkOf])) _).setCell ⟨gr, k * 3 + 2, none⟩ (.inl (by simp [blkOf])) _).drew⟩

end Go.Proofs.YteokjobkjmibfaaGreat
