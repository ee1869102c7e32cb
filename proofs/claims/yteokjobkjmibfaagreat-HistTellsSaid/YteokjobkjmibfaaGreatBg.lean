/- The Book: each list is grown, by one and by many; what was there stays, and what is put behind bears its own marks. Condition: the lists are kept and marked. Printed by wip/tools/book.py. -/
import Derived.Test.YteokjobkjmibfaaGreatBp
namespace Go.Proofs.YteokjobkjmibfaaGreat
open Go.RowKit Go.Maps

section
variable {α : Type} [Inhabited α]

/-- a list that grows -/
structure GrowRow (K : Kd α) (mks : Nat → Nat → Nat → List α) (wr wx : World) (i : Nat) (r : Lst α) (m : Nat) (la : Option Addr) (lc : Nat) : Prop where
  own : Own K wx la lc (mks i 0 m)
  at_ : ∀ g, blkOf la = some g → blkOf r.a = some g ∨ wr.heap.size ≤ g
  old : Rd K wx r.a r.L
  ty : ∀ g, blkOf r.a = some g → ∃ cur, Blk wx g cur K.te
  chg : Chg (blkOf r.a).toList wr wx

theorem GrowRow.start {K : Kd α} (hK : K.Law) {mks : Nat → Nat → Nat → List α} {wr : World} {i : Nat} {r : Lst α} {n : Nat} (hn : r.L.length = n) (h : Own K wr r.a r.cap r.L) (hm : r.L = mks i 0 n) : GrowRow K mks wr wr i r n r.a r.cap :=
  ⟨by rw [← hm]; exact h, fun g hg => .inl hg, h.rd hK, fun g hg => h.blk hg, Chg.refl _ _⟩
theorem GrowRow.chg0 {K : Kd α} (hK : K.Law) {mks : Nat → Nat → Nat → List α} {wr wx wy : World} {i : Nat} {r : Lst α} {m : Nat} {la : Option Addr} {lc : Nat} (h : GrowRow K mks wr wx i r m la lc) (hc : Chg [] wx wy) : GrowRow K mks wr wy i r m la lc :=
  ⟨h.own.chg hc (by simp), h.at_, h.old.chg0 hK hc, fun g hg => blk_ty hc (h.ty g hg) (by simp), h.chg.trans (hc.mono (by simp))⟩
theorem GrowRow.more {K : Kd α} (hK : K.Law) {mks : Nat → Nat → Nat → List α} (happ : ∀ i n m, mks i 0 n ++ mks i n m = mks i 0 (n + m)) {wr wy wz : World} {i : Nat} {r : Lst α} {m c : Nat} {la la' : Option Addr} {lc lc' : Nat} (h : GrowRow K mks wr wy i r m la lc) (hz : ∀ p : Addr, r.a = some p → p.off = 0) (hn : r.L.length ≤ m)
    (ho : Own K wz la' lc' (mks i 0 m ++ mks i m c)) (hg : wy.grownBy wz (blkOf la)) (hat : blkOf la' = blkOf la ∨ blkOf la' = some wy.heap.size) (hk : ∀ g, blkOf la = some g → (∃ cur, Blk wz g cur K.te) ∧ ∀ j, j < m * K.size → wz.cell? ⟨g, j, none⟩ = wy.cell? ⟨g, j, none⟩) :
    GrowRow K mks wr wz i r (m + c) la' lc' := by
  refine ⟨by rw [← happ]; exact ho, fun g hg' => ?_, h.old.grown hK hz hg hk hn, fun g hg' => ?_, h.chg.grown hg (fun g hg' => ?_)⟩
  · rcases hat with e | e
    · rw [e] at hg'; exact h.at_ g hg'
    · rw [e] at hg'; cases hg'; exact .inr h.chg.size
  · by_cases hb : blkOf la = some g
    · exact (hk g hb).1
    · obtain ⟨c, hc⟩ := h.ty g hg'
      exact ⟨c, hc.grown hg (fun e => hb e.symm)⟩
  · rcases h.at_ g hg' with e | e
    · exact .inl (by simp [e])
    · exact .inr e

/-- the lists that were grown so far -/
structure GrowInv (K : Kd α) (KK : Kd (Lst α)) (mks : Nat → Nat → Nat → List α) (w wr : World) (R : List (Lst α)) (i : Nat) (G : List (Lst α)) (oa : Option Addr) (oc : Nat) : Prop where
  out : Own KK wr oa oc G
  len : G.length = i
  outnew : ∀ g, blkOf oa = some g → w.heap.size ≤ g
  each : ∀ k, k < i → (G.getD k default).L = mks k 0 ((R.getD k default).L.length + 72) ∧ Own K wr (G.getD k default).a (G.getD k default).cap (G.getD k default).L ∧ (∀ g, blkOf (G.getD k default).a = some g → blkOf (R.getD k default).a = some g ∨ w.heap.size ≤ g)
  old : ∀ k, k < i → Rd K wr (R.getD k default).a (R.getD k default).L ∧ ∀ g, blkOf (R.getD k default).a = some g → ∃ cur, Blk wr g cur K.te
  chg : Chg (rowBlks (R.take i)) w wr

theorem GrowInv.start (K : Kd α) (KK : Kd (Lst α)) (mks : Nat → Nat → Nat → List α) (w : World) (R : List (Lst α)) : GrowInv K KK mks w w R 0 [] none 0 :=
  ⟨Own.nil _ _, rfl, by simp [blkOf], fun k hk => by omega, fun k hk => by omega, Chg.refl _ _⟩

theorem rowBlks_take {β : Type} {R : List (Lst β)} {i : Nat} {g : Nat} (h : g ∈ rowBlks (R.take i)) : ∃ k, k < i ∧ k < R.length ∧ blkOf (R.getD k default).a = some g := by
  obtain ⟨r, hr, hg⟩ := mem_rowBlks.1 h
  obtain ⟨k, hk, rfl⟩ := List.mem_iff_getElem.1 hr
  rw [List.length_take] at hk
  refine ⟨k, by omega, by omega, ?_⟩
  rw [List.getD_eq_getElem?_getD, List.getElem?_eq_getElem (by omega)]
  simpa using hg
theorem mem_rowBlks_take {β : Type} {R : List (Lst β)} {i k : Nat} (hk : k < R.length) (hi : k < i) {g : Nat} (hg : blkOf (R.getD k default).a = some g) : g ∈ rowBlks (R.take i) := by
  refine mem_rowBlks.2 ⟨R.getD k default, ?_, hg⟩
  rw [List.getD_eq_getElem?_getD, List.getElem?_eq_getElem hk]
  exact List.mem_iff_getElem.2 ⟨k, by rw [List.length_take]; omega, by simp⟩

/-- a list that was not grown yet -/
theorem GrowInv.still {K : Kd α} {KK : Kd (Lst α)} {mks : Nat → Nat → Nat → List α} {w wr : World} {base : Nat} {a : Option Addr} {cap : Nat} {R : List (Lst α)} {i : Nat} {G : List (Lst α)} {oa : Option Addr} {oc : Nat} (hR : RowsAt K KK w base a cap R) (h : GrowInv K KK mks w wr R i G oa oc) {k : Nat} (hk : k < R.length) (hi : i ≤ k) :
    Own K wr (R.getD k default).a (R.getD k default).cap (R.getD k default).L :=
  (hR.each _ (getD_mem hk)).chg h.chg fun g hg hm => by
    obtain ⟨j, hj, hjl, hgj⟩ := rowBlks_take hm
    exact pairwise_get hR.apart hjl hk (by omega) g hgj hg

theorem GrowInv.next {K : Kd α} {KK : Kd (Lst α)} (hp : Kd.Pair K KK) {mks : Nat → Nat → Nat → List α} (hl : ∀ i f n, (mks i f n).length = n) {w wr wz wz2 w3 : World} {base : Nat} {a : Option Addr} {cap : Nat} {R : List (Lst α)} {i : Nat} {G : List (Lst α)} {oa oa' : Option Addr} {oc oc' : Nat} (hR : RowsAt K KK w base a cap R) (h : GrowInv K KK mks w wr R i G oa oc) (hi : i < R.length)
    {la : Option Addr} {lc : Nat} (hr : GrowRow K mks wr wz i (R.getD i default) ((R.getD i default).L.length + 72) la lc) (hc : Chg [] wz wz2) (ho : Own KK w3 oa' oc' (G ++ [⟨la, lc, mks i 0 ((R.getD i default).L.length + 72)⟩])) (hg : wz2.grownBy w3 (blkOf oa)) (hat : blkOf oa' = blkOf oa ∨ blkOf oa' = some wz2.heap.size) :
    GrowInv K KK mks w w3 R (i + 1) (G ++ [⟨la, lc, mks i 0 ((R.getD i default).L.length + 72)⟩]) oa' oc' := by
  have hRi := h.still hR hi (Nat.le_refl _)
  have hRw := hR.each _ (getD_mem hi)
  have s1 := h.chg.size
  have s2 := hr.chg.size
  have s3 := hc.size
  have hc1 : Chg (blkOf (R.getD i default).a).toList wr wz2 := hr.chg.trans (hc.mono (by simp))
  have hout : Own KK wz2 oa oc G := h.out.chg hc1 fun g h1 h2 => by
    obtain ⟨c1, b1⟩ := hRi.blk (g := g) (by simpa using h2)
    obtain ⟨c2, b2⟩ := h.out.blk h1
    exact blk_ne b1 b2 hp.ne rfl
  have hc2 : Chg (blkOf oa).toList wz2 w3 := (Chg.refl _ _).grown hg (fun g hg => .inl (by simp [hg]))
  -- a list of this kind lies elsewhere than the lists' row
  have e3 : ∀ {b : Option Addr} {c : Nat} {L : List α}, Own K wz2 b c L → Own K w3 b c L := fun hO => hO.chg hc2 fun g h1 h2 => by
    obtain ⟨c1, b1⟩ := hO.blk h1
    obtain ⟨c2, b2⟩ := hout.blk (g := g) (by simpa using h2)
    exact blk_ne b1 b2 hp.ne rfl
  have hnew : ∀ g, g < w.heap.size → g ∉ (blkOf oa).toList := fun g h1 h2 => by
    have := h.outnew g (by simpa using h2)
    omega
  refine ⟨ho, by rw [List.length_append, h.len]; rfl, fun g hg' => ?_, fun k hk => ?_, fun k hk => ?_, ?_⟩
  · rcases hat with e | e
    · rw [e] at hg'; exact h.outnew g hg'
    · rw [e] at hg'; cases hg'; omega
  · by_cases hki : k < i
    · have hgk : (G ++ [(⟨la, lc, mks i 0 ((R.getD i default).L.length + 72)⟩ : Lst α)]).getD k default = G.getD k default := by
        rw [List.getD_eq_getElem?_getD, List.getElem?_append_left (by rw [h.len]; exact hki), List.getD_eq_getElem?_getD]
      rw [hgk]
      obtain ⟨h1, h2, h3⟩ := h.each k hki
      refine ⟨h1, e3 (h2.chg hc1 fun g h4 h5 => ?_), h3⟩
      have h5' : blkOf (R.getD i default).a = some g := by simpa using h5
      rcases h3 g h4 with e | e
      · exact pairwise_get hR.apart (show k < R.length by omega) hi (by omega) g e h5'
      · have := hRw.lt h5'
        omega
    · obtain rfl : k = i := by omega
      have hgk : (G ++ [(⟨la, lc, mks k 0 ((R.getD k default).L.length + 72)⟩ : Lst α)]).getD k default = ⟨la, lc, mks k 0 ((R.getD k default).L.length + 72)⟩ := by
        rw [List.getD_eq_getElem?_getD, List.getElem?_append_right (by rw [h.len]; exact Nat.le_refl _), h.len, Nat.sub_self]; rfl
      rw [hgk]
      refine ⟨rfl, e3 (hr.own.chg hc (by simp)), fun g h4 => ?_⟩
      rcases hr.at_ g h4 with e | e
      · exact .inl e
      · exact .inr (by omega)
  · have hk' : k < R.length := by omega
    have hlow : ∀ g, blkOf (R.getD k default).a = some g → g ∉ (blkOf oa).toList := fun g h1 => hnew g ((hR.each _ (getD_mem hk')).lt h1)
    by_cases hki : k < i
    · obtain ⟨h1, h2⟩ := h.old k hki
      have hne : ∀ g, blkOf (R.getD k default).a = some g → g ∉ (blkOf (R.getD i default).a).toList := fun g h4 h5 => pairwise_get hR.apart hk' hi (by omega) g h4 (by simpa using h5)
      exact ⟨(h1.chg hp.k hc1 hne).chg hp.k hc2 hlow, fun g h4 => blk_ty hc2 (blk_ty hc1 (h2 g h4) (hne g h4)) (hlow g h4)⟩
    · obtain rfl : k = i := by omega
      exact ⟨(hr.old.chg0 hp.k hc).chg hp.k hc2 hlow, fun g h4 => blk_ty hc2 (blk_ty hc (hr.ty g h4) (by simp)) (hlow g h4)⟩
  · have t1 : Chg (rowBlks (R.take (i + 1))) w wr := h.chg.mono fun g h1 => .inl (by
      obtain ⟨k, hk, hkl, hgk⟩ := rowBlks_take h1
      exact mem_rowBlks_take hkl (by omega) hgk)
    have t2 : Chg (rowBlks (R.take (i + 1))) w wz2 := t1.step hc1 fun g h1 => .inl (mem_rowBlks_take hi (by omega) (by simpa using h1))
    exact t2.step hc2 fun g h1 => .inr (h.outnew g (by simpa using h1))

/-- what growing leaves -/
def GrowPost (K : Kd α) (KK : Kd (Lst α)) (mks : Nat → Nat → Nat → List α) (w : World) (a : Option Addr) (R : List (Lst α)) (e : Ending) (w' : World) : Prop :=
  ∃ (a2 : Option Addr) (cap2 : Nat) (G : List (Lst α)), e = .returned (.slice a2 R.length cap2) ∧ G.length = R.length ∧ Marked K KK mks w' a2 G ∧ Marked K KK mks w' a R ∧ Chg (rowBlks R) w w'

theorem GrowInv.post {K : Kd α} {KK : Kd (Lst α)} (hp : Kd.Pair K KK) {mks : Nat → Nat → Nat → List α} (hl : ∀ i f n, (mks i f n).length = n) {w wr : World} {base : Nat} {a : Option Addr} {cap : Nat} {R : List (Lst α)} {G : List (Lst α)} {oa : Option Addr} {oc : Nat} (hR : RowsAt K KK w base a cap R) (hmk : ∀ k, k < R.length → (R.getD k default).L = mks k 0 (R.getD k default).L.length) (h : GrowInv K KK mks w wr R R.length G oa oc) :
    GrowPost K KK mks w a R (.returned (.slice oa R.length oc)) wr := by
  have hc := h.chg
  rw [List.take_length] at hc
  have hrow : Own KK wr a cap R := hR.row.chg hc fun g hg => hR.notA hp hg
  refine ⟨oa, oc, G, rfl, h.len, ⟨h.out.rd hp.kk, fun g hg _ => h.out.blk hg, fun k hk => ?_⟩, ⟨hrow.rd hp.kk, fun g hg _ => hrow.blk hg, fun k hk => ?_⟩, hc⟩
  · rw [h.len] at hk
    obtain ⟨h1, h2, _⟩ := h.each k hk
    have h3 := hR.short _ (getD_mem hk)
    refine ⟨by rw [h1, hl], h2.rd hp.k, by rw [h1, hl]; omega, fun g hg => h2.blk hg⟩
  · obtain ⟨h1, h2⟩ := h.old k hk
    have h3 := hR.short _ (getD_mem hk)
    exact ⟨hmk k hk, h1, by omega, h2⟩
end

set_option maxHeartbeats 8000000 in
set_option maxRecDepth 1000000 in
theorem growN_any {w : World} {B base : Nat} {cs : Array Value} {a : Option Addr} {cap : Nat} {R : List (Lst Int)} (hB : Blk w B cs 43) (h4 : cs[4]? = some (.slice a R.length cap)) (h : RowsAt kN kNN w base a cap R) (hmk : ∀ k, k < R.length → (R.getD k default).L = mksN k 0 (R.getD k default).L.length) (hm : R.length ≤ 250) :
    Calls Tryz.prog 69 #[.pointer (some ⟨B, 0, none⟩)] w (GrowPost kN kNN mksN w a R) := by
  have H := Lib.hid h
  have HB := Lib.hid hB
  have H4 := Lib.hid h4
  have HMK := Lib.hid hmk
  have HNB : Hid (∀ i, B ∉ rowBlks (R.take i)) := Lib.hid (fun i hm => by
    obtain ⟨k, _, hkl, hg⟩ := rowBlks_take hm
    exact h.notB pairN hB (mem_rowBlks.2 ⟨_, getD_mem hkl, hg⟩))
  have HN : Hid (∀ i g, blkOf a = some g → g ∉ rowBlks (R.take i)) := Lib.hid (fun i g hg hm => by
    obtain ⟨k, _, hkl, hg'⟩ := rowBlks_take hm
    exact h.notA pairN hg (mem_rowBlks.2 ⟨_, getD_mem hkl, hg'⟩))
  have hc0 := hB.cell 4 h4
  clear h hB h4 hmk
  go_enter Tryz.func69, Tryz.ntmps69
  go_wp2_with fail
  go_loopg [3, 4] R.length (fun q s3 s4 wr => ∃ (i : Nat) (G : List (Lst Int)) (oa : Option Addr) (oc : Nat), i ≤ R.length ∧ q = R.length - i ∧ s4 = .int .i64 i ∧ s3 = .slice oa i oc ∧ GrowInv kN kNN mksN w wr R i G oa oc)
  case atStart => exact ⟨0, [], none, 0, Nat.zero_le _, rfl, rfl, rfl, GrowInv.start _ _ _ _ _⟩
  case round =>
    obtain ⟨i, G, oa, oc, hi, rfl, rfl, rfl, hG⟩ := hrel
    have c4 := (HB.out.chg hG.chg (HNB.out i)).cell 4 H4.out
    have hsz := hG.chg.size
    have HG := Lib.hid hG
    clear hc0 hG
    by_cases hlt : i < R.length
    case neg =>
      obtain rfl : i = R.length := by omega
      have HP := Lib.hid (GrowInv.post pairN mksN_length H.out HMK.out HG.out)
      go_wp2_with fail
      go_ret
      exact HP.out
    case pos =>
      have hrow := H.out.row.chg HG.out.chg (HN.out i)
      obtain ⟨g, hga, hcap, v1⟩ := hrow.val pairN hlt
      have o1 := HG.out.still H.out hlt (Nat.le_refl _)
      have hsh := H.out.short _ (getD_mem hlt)
      have hmk := HMK.out i hlt
      have HNX : Hid (∀ (la : Option Addr) (lc : Nat) (wz wz2 w3 : World) (oa' : Option Addr) (oc' : Nat), GrowRow kN mksN wr wz i (R.getD i default) ((R.getD i default).L.length + 72) la lc → Chg [] wz wz2 → Own kNN w3 oa' oc' (G ++ [⟨la, lc, mksN i 0 ((R.getD i default).L.length + 72)⟩]) → wz2.grownBy w3 (blkOf oa) → (blkOf oa' = blkOf oa ∨ blkOf oa' = some wz2.heap.size) →
          GrowInv kN kNN mksN w w3 R (i + 1) (G ++ [⟨la, lc, mksN i 0 ((R.getD i default).L.length + 72)⟩]) oa' oc') := Lib.hid (fun la lc wz wz2 w3 oa' oc' h1 h2 h3 h4 h5 => HG.out.next pairN mksN_length H.out hlt h1 h2 h3 h4 h5)
      generalize R.getD i default = r at v1 o1 hsh hmk HNX
      obtain ⟨ra, rc, rL⟩ := r
      simp only at o1 hsh hmk HNX
      simp only [Lst.val] at v1
      have hz : ∀ p : Addr, ra = some p → p.off = 0 := fun p hp => by
        rcases o1.shape with ⟨rfl, _⟩ | ⟨g, rfl, _⟩
        · cases hp
        · cases hp; rfl
      have HZ := Lib.hid hz
      have HI : Hid (GrowRow kN mksN wr wr i ⟨ra, rc, rL⟩ (rL.length + 0) ra rc) := Lib.hid (GrowRow.start lawN (r := ⟨ra, rc, rL⟩) rfl o1 hmk)
      have HOO : Hid (∀ W : World, Chg (blkOf ra).toList wr W → Own kNN W oa oc G) := Lib.hid (fun W hc => HG.out.out.chg hc fun g h1 h2 => by
        obtain ⟨c1, b1⟩ := o1.blk (g := g) (by simpa using h2)
        obtain ⟨c2, b2⟩ := HG.out.out.blk h1
        exact blk_ne b1 b2 pairN.ne rfl)
      have HGL := Lib.hid HG.out.len
      have HMK2 := Lib.hid hmk
      rw [hga] at c4
      have e1 : (0 : Int) ≤ (i : Int) := by omega
      have e2 : (i : Int) < (R.length : Int) := by omega
      have hL900 : rL.length ≤ 900000 := hsh
      clear o1 hz hmk hga hrow hsh
      go_wp2_with fail
      obtain ⟨wo, rfl⟩ : ∃ wo : World, wo = wr := ⟨_, rfl⟩
      go_loopg [5, 6] 12 (fun q s5 s6 wx => ∃ (j : Nat) (la : Option Addr) (lc : Nat), j ≤ 12 ∧ q = 12 - j ∧ s6 = .int .i64 j ∧ s5 = .slice la (rL.length + j) lc ∧ GrowRow kN mksN wo wx i ⟨ra, rc, rL⟩ (rL.length + j) la lc)
      case atStart => exact ⟨0, ra, rc, by omega, rfl, rfl, rfl, HI.out⟩
      case round =>
        obtain ⟨j, la, lc, hj, rfl, rfl, rfl, hI⟩ := hrel
        have HI := Lib.hid hI
        have HLM : Hid (∀ n, (mksN i 0 n).length = n) := Lib.hid (fun n => mksN_length i 0 n)
        have HLF : Hid (∀ f n, (mksN i f n).length = n) := Lib.hid (fun f n => mksN_length i f n)
        clear hI c4 v1
        by_cases hjl : j < 12
        case pos =>
          go_wp2_with fail
          refine (markN_any wr (i := i) (f := rL.length + j) (n := 1) (by omega) (by omega) (by omega)).mono ?_
          rintro e w6 ⟨a6, c6, rfl, hO6, hn6, hC6⟩
          have HO6 := Lib.hid hO6
          have HI6 := Lib.hid (HI.out.chg0 lawN hC6)
          have HS6 : Hid (Src kN w6 (.slice a6 1 c6) (mksN i (rL.length + j) 1)) := Lib.hid (by have := hO6.src lawN; rwa [HLF.out] at this)
          clear hO6 hn6
          go_wp2_with (at_builtin; refine wpList_appendK kN lawN _ rfl _ _ rfl la lc (rL.length + j) (mksN i 0 (rL.length + j)) (HLM.out _) rfl HI6.out.own (by rw [HLM.out]; omega) (.slice a6 1 c6) (mksN i (rL.length + j) 1) (rL.length + (j + 1)) rfl HS6.out (by rw [HLF.out]; omega) (by rw [HLF.out]; omega) ?_; intro a7 c7 w7 hO7 hg7 hat7 hk7)
          have HI7 : Hid (GrowRow kN mksN wo w7 i ⟨ra, rc, rL⟩ (rL.length + (j + 1)) a7 c7) := Lib.hid (HI6.out.more lawN mksN_app HZ.out (by simp) hO7 hg7 hat7 hk7)
          clear hO7 hg7 hat7 hk7
          go_roundg (12 - (j + 1))
          case measure => omega
          case rel => exact ⟨j + 1, a7, c7, by omega, rfl, by go_num, rfl, HI7.out⟩
        case neg =>
          obtain rfl : j = 12 := by omega
          go_wp2_with fail
          refine (markN_any wr (i := i) (f := rL.length + 12) (n := 60) (by omega) (by omega) (by omega)).mono ?_
          rintro e w6 ⟨a6, c6, rfl, hO6, hn6, hC6⟩
          have HI6 := Lib.hid (HI.out.chg0 lawN hC6)
          have HS6 : Hid (Src kN w6 (.slice a6 60 c6) (mksN i (rL.length + 12) 60)) := Lib.hid (by have := hO6.src lawN; rwa [HLF.out] at this)
          have HX : Hid (∀ (W : World) (x : Option Addr) (c : Nat), Src kNN (W.alloc (.cells #[.slice x (rL.length + 72) c] 23)) (.slice (some ⟨W.heap.size, 0, none⟩) 1 1) [⟨x, c, mksN i 0 (rL.length + 72)⟩]) := Lib.hid (fun W x c => src_lst pairN (fun _ => trivial) (by have := Blk.new W #[.slice x (rL.length + 72) c] 23; rw [Lst.val, HLM.out]; exact this))
          clear hO6 hn6
          go_wp2_with ((first
            | (at_builtin; refine wpList_appendK kN lawN _ rfl _ _ rfl la lc (rL.length + 12) (mksN i 0 (rL.length + 12)) (HLM.out _) rfl HI6.out.own (by rw [HLM.out]; omega) (.slice a6 60 c6) (mksN i (rL.length + 12) 60) (rL.length + 72) rfl HS6.out (by rw [HLF.out]; omega) (by rw [HLF.out]) ?_; intro a7 c7 w7 hO7 hg7 hat7 hk7; have HI7 : Hid (GrowRow kN mksN wo w7 i ⟨ra, rc, rL⟩ (rL.length + 72) a7 c7) := Lib.hid (HI6.out.more lawN mksN_app HZ.out (by simp) hO7 hg7 hat7 hk7); clear hO7 hg7 hat7 hk7)
            | (at_builtin; refine wpList_appendK kNN lawNN _ rfl _ _ rfl oa oc i G HGL.out rfl (HOO.out _ (HI7.out.chg.alloc _)) (by rw [HGL.out]; omega) (.slice (some ⟨w7.heap.size, 0, none⟩) 1 1) [⟨a7, c7, mksN i 0 (rL.length + 72)⟩] (i + 1) rfl (HX.out w7 a7 c7) (by simp) rfl ?_; intro a8 c8 w8 hO8 hg8 hat8 hk8; have HG8 := Lib.hid (HNX.out a7 c7 w7 _ w8 a8 c8 HI7.out ((Chg.refl [] w7).alloc _) hO8 hg8 hat8); clear hO8 hg8 hat8 hk8)))
          go_roundg (R.length - (i + 1))
          case measure => omega
          case rel => exact ⟨i + 1, _, a8, c8, by omega, rfl, by go_num, rfl, HG8.out⟩

set_option maxHeartbeats 8000000 in
set_option maxRecDepth 1000000 in
theorem growM_any {w : World} {B base : Nat} {cs : Array Value} {a : Option Addr} {cap : Nat} {R : List (Lst Img)} (hB : Blk w B cs 43) (h4 : cs[10]? = some (.slice a R.length cap)) (h : RowsAt kM kMM w base a cap R) (hmk : ∀ k, k < R.length → (R.getD k default).L = mksM k 0 (R.getD k default).L.length) (hm : R.length ≤ 250) :
    Calls Tryz.prog 72 #[.pointer (some ⟨B, 0, none⟩)] w (GrowPost kM kMM mksM w a R) := by
  have H := Lib.hid h
  have HB := Lib.hid hB
  have H4 := Lib.hid h4
  have HMK := Lib.hid hmk
  have HNB : Hid (∀ i, B ∉ rowBlks (R.take i)) := Lib.hid (fun i hm => by
    obtain ⟨k, _, hkl, hg⟩ := rowBlks_take hm
    exact h.notB pairM hB (mem_rowBlks.2 ⟨_, getD_mem hkl, hg⟩))
  have HN : Hid (∀ i g, blkOf a = some g → g ∉ rowBlks (R.take i)) := Lib.hid (fun i g hg hm => by
    obtain ⟨k, _, hkl, hg'⟩ := rowBlks_take hm
    exact h.notA pairM hg (mem_rowBlks.2 ⟨_, getD_mem hkl, hg'⟩))
  have hc0 := hB.cell 10 h4
  clear h hB h4 hmk
  go_enter Tryz.func72, Tryz.ntmps72
  go_wp2_with fail
  go_loopg [3, 4] R.length (fun q s3 s4 wr => ∃ (i : Nat) (G : List (Lst Img)) (oa : Option Addr) (oc : Nat), i ≤ R.length ∧ q = R.length - i ∧ s4 = .int .i64 i ∧ s3 = .slice oa i oc ∧ GrowInv kM kMM mksM w wr R i G oa oc)
  case atStart => exact ⟨0, [], none, 0, Nat.zero_le _, rfl, rfl, rfl, GrowInv.start _ _ _ _ _⟩
  case round =>
    obtain ⟨i, G, oa, oc, hi, rfl, rfl, rfl, hG⟩ := hrel
    have c4 := (HB.out.chg hG.chg (HNB.out i)).cell 10 H4.out
    have hsz := hG.chg.size
    have HG := Lib.hid hG
    clear hc0 hG
    by_cases hlt : i < R.length
    case neg =>
      obtain rfl : i = R.length := by omega
      have HP := Lib.hid (GrowInv.post pairM mksM_length H.out HMK.out HG.out)
      go_wp2_with fail
      go_ret
      exact HP.out
    case pos =>
      have hrow := H.out.row.chg HG.out.chg (HN.out i)
      obtain ⟨g, hga, hcap, v1⟩ := hrow.val pairM hlt
      have o1 := HG.out.still H.out hlt (Nat.le_refl _)
      have hsh := H.out.short _ (getD_mem hlt)
      have hmk := HMK.out i hlt
      have HNX : Hid (∀ (la : Option Addr) (lc : Nat) (wz wz2 w3 : World) (oa' : Option Addr) (oc' : Nat), GrowRow kM mksM wr wz i (R.getD i default) ((R.getD i default).L.length + 72) la lc → Chg [] wz wz2 → Own kMM w3 oa' oc' (G ++ [⟨la, lc, mksM i 0 ((R.getD i default).L.length + 72)⟩]) → wz2.grownBy w3 (blkOf oa) → (blkOf oa' = blkOf oa ∨ blkOf oa' = some wz2.heap.size) →
          GrowInv kM kMM mksM w w3 R (i + 1) (G ++ [⟨la, lc, mksM i 0 ((R.getD i default).L.length + 72)⟩]) oa' oc') := Lib.hid (fun la lc wz wz2 w3 oa' oc' h1 h2 h3 h4 h5 => HG.out.next pairM mksM_length H.out hlt h1 h2 h3 h4 h5)
      generalize R.getD i default = r at v1 o1 hsh hmk HNX
      obtain ⟨ra, rc, rL⟩ := r
      simp only at o1 hsh hmk HNX
      simp only [Lst.val] at v1
      have hz : ∀ p : Addr, ra = some p → p.off = 0 := fun p hp => by
        rcases o1.shape with ⟨rfl, _⟩ | ⟨g, rfl, _⟩
        · cases hp
        · cases hp; rfl
      have HZ := Lib.hid hz
      have HI : Hid (GrowRow kM mksM wr wr i ⟨ra, rc, rL⟩ (rL.length + 0) ra rc) := Lib.hid (GrowRow.start lawM (r := ⟨ra, rc, rL⟩) rfl o1 hmk)
      have HOO : Hid (∀ W : World, Chg (blkOf ra).toList wr W → Own kMM W oa oc G) := Lib.hid (fun W hc => HG.out.out.chg hc fun g h1 h2 => by
        obtain ⟨c1, b1⟩ := o1.blk (g := g) (by simpa using h2)
        obtain ⟨c2, b2⟩ := HG.out.out.blk h1
        exact blk_ne b1 b2 pairM.ne rfl)
      have HGL := Lib.hid HG.out.len
      have HMK2 := Lib.hid hmk
      rw [hga] at c4
      have e1 : (0 : Int) ≤ (i : Int) := by omega
      have e2 : (i : Int) < (R.length : Int) := by omega
      have hL900 : rL.length ≤ 900000 := hsh
      clear o1 hz hmk hga hrow hsh
      go_wp2_with fail
      obtain ⟨wo, rfl⟩ : ∃ wo : World, wo = wr := ⟨_, rfl⟩
      go_loopg [5, 6] 12 (fun q s5 s6 wx => ∃ (j : Nat) (la : Option Addr) (lc : Nat), j ≤ 12 ∧ q = 12 - j ∧ s6 = .int .i64 j ∧ s5 = .slice la (rL.length + j) lc ∧ GrowRow kM mksM wo wx i ⟨ra, rc, rL⟩ (rL.length + j) la lc)
      case atStart => exact ⟨0, ra, rc, by omega, rfl, rfl, rfl, HI.out⟩
      case round =>
        obtain ⟨j, la, lc, hj, rfl, rfl, rfl, hI⟩ := hrel
        have HI := Lib.hid hI
        have HLM : Hid (∀ n, (mksM i 0 n).length = n) := Lib.hid (fun n => mksM_length i 0 n)
        have HLF : Hid (∀ f n, (mksM i f n).length = n) := Lib.hid (fun f n => mksM_length i f n)
        clear hI c4 v1
        by_cases hjl : j < 12
        case pos =>
          go_wp2_with fail
          refine (markM_any wr (i := i) (f := rL.length + j) (n := 1) (by omega) (by omega) (by omega)).mono ?_
          rintro e w6 ⟨a6, c6, rfl, hO6, hn6, hC6⟩
          have HO6 := Lib.hid hO6
          have HI6 := Lib.hid (HI.out.chg0 lawM hC6)
          have HS6 : Hid (Src kM w6 (.slice a6 1 c6) (mksM i (rL.length + j) 1)) := Lib.hid (by have := hO6.src lawM; rwa [HLF.out] at this)
          clear hO6 hn6
          go_wp2_with (at_builtin; refine wpList_appendK kM lawM _ rfl _ _ rfl la lc (rL.length + j) (mksM i 0 (rL.length + j)) (HLM.out _) rfl HI6.out.own (by rw [HLM.out]; omega) (.slice a6 1 c6) (mksM i (rL.length + j) 1) (rL.length + (j + 1)) rfl HS6.out (by rw [HLF.out]; omega) (by rw [HLF.out]; omega) ?_; intro a7 c7 w7 hO7 hg7 hat7 hk7)
          have HI7 : Hid (GrowRow kM mksM wo w7 i ⟨ra, rc, rL⟩ (rL.length + (j + 1)) a7 c7) := Lib.hid (HI6.out.more lawM mksM_app HZ.out (by simp) hO7 hg7 hat7 hk7)
          clear hO7 hg7 hat7 hk7
          go_roundg (12 - (j + 1))
          case measure => omega
          case rel => exact ⟨j + 1, a7, c7, by omega, rfl, by go_num, rfl, HI7.out⟩
        case neg =>
          obtain rfl : j = 12 := by omega
          go_wp2_with fail
          refine (markM_any wr (i := i) (f := rL.length + 12) (n := 60) (by omega) (by omega) (by omega)).mono ?_
          rintro e w6 ⟨a6, c6, rfl, hO6, hn6, hC6⟩
          have HI6 := Lib.hid (HI.out.chg0 lawM hC6)
          have HS6 : Hid (Src kM w6 (.slice a6 60 c6) (mksM i (rL.length + 12) 60)) := Lib.hid (by have := hO6.src lawM; rwa [HLF.out] at this)
          have HX : Hid (∀ (W : World) (x : Option Addr) (c : Nat), Src kMM (W.alloc (.cells #[.slice x (rL.length + 72) c] 53)) (.slice (some ⟨W.heap.size, 0, none⟩) 1 1) [⟨x, c, mksM i 0 (rL.length + 72)⟩]) := Lib.hid (fun W x c => src_lst pairM (fun _ => trivial) (by have := Blk.new W #[.slice x (rL.length + 72) c] 53; rw [Lst.val, HLM.out]; exact this))
          clear hO6 hn6
          go_wp2_with ((first
            | (at_builtin; refine wpList_appendK kM lawM _ rfl _ _ rfl la lc (rL.length + 12) (mksM i 0 (rL.length + 12)) (HLM.out _) rfl HI6.out.own (by rw [HLM.out]; omega) (.slice a6 60 c6) (mksM i (rL.length + 12) 60) (rL.length + 72) rfl HS6.out (by rw [HLF.out]; omega) (by rw [HLF.out]) ?_; intro a7 c7 w7 hO7 hg7 hat7 hk7; have HI7 : Hid (GrowRow kM mksM wo w7 i ⟨ra, rc, rL⟩ (rL.length + 72) a7 c7) := Lib.hid (HI6.out.more lawM mksM_app HZ.out (by simp) hO7 hg7 hat7 hk7); clear hO7 hg7 hat7 hk7)
            | (at_builtin; refine wpList_appendK kMM lawMM _ rfl _ _ rfl oa oc i G HGL.out rfl (HOO.out _ (HI7.out.chg.alloc _)) (by rw [HGL.out]; omega) (.slice (some ⟨w7.heap.size, 0, none⟩) 1 1) [⟨a7, c7, mksM i 0 (rL.length + 72)⟩] (i + 1) rfl (HX.out w7 a7 c7) (by simp) rfl ?_; intro a8 c8 w8 hO8 hg8 hat8 hk8; have HG8 := Lib.hid (HNX.out a7 c7 w7 _ w8 a8 c8 HI7.out ((Chg.refl [] w7).alloc _) hO8 hg8 hat8); clear hO8 hg8 hat8 hk8)))
          go_roundg (R.length - (i + 1))
          case measure => omega
          case rel => exact ⟨i + 1, _, a8, c8, by omega, rfl, by go_num, rfl, HG8.out⟩

end Go.Proofs.YteokjobkjmibfaaGreat
