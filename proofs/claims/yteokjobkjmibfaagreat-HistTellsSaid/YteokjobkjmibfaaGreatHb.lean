/- What keeping a list in the Book leaves, and what the two Plays make, as HistTells meets them. Conditions: those that each law names. -/
import Derived.Test.YteokjobkjmibfaaGreatSb
namespace Go.Proofs.YteokjobkjmibfaaGreat
open Go.RowKit Go.Maps

def bookBlks {α : Type} (B : Nat) (P : Part α) : List Nat := B :: ((blkOf P.a).toList ++ (blkOf P.a').toList)

theorem KeepAt.othersB {α : Type} {K : Kd α} {KK : Kd (Lst α)} {w : World} {base B : Nat} {cs : Array Value} {P : Part α} (h : KeepAt K KK w base P) (hB : Blk w B cs 43) {t t' : TypeId} (h1 : (43 : TypeId) ≠ t) (h2 : (43 : TypeId) ≠ t') (h3 : KK.te ≠ t) (h4 : KK.te ≠ t') : Others w (bookBlks B P) t t' := by
  intro g hg
  unfold bookBlks at hg
  rcases List.mem_cons.1 hg with rfl | hg
  · exact ⟨cs, 43, hB, h1, h2⟩
  · rcases List.mem_append.1 hg with hg | hg
    · obtain ⟨c, hc⟩ := h.rows.row.blk (g := g) (by simpa using hg)
      exact ⟨c, _, hc, h3, h4⟩
    · obtain ⟨c, hc⟩ := h.wrow.blk (g := g) (by simpa using hg)
      exact ⟨c, _, hc, h3, h4⟩

def BookPost {α : Type} (Is : World → Part α → Prop) (B : Nat) (P : Part α) (r : Lst α) (w : World) (e : Ending) (w' : World) : Prop :=
  e = .returned (.tuple #[]) ∧ ∃ P' : Part α, (P'.R = P.R ∨ P'.R = P.R ++ [r]) ∧ Is w' P' ∧ Chg (bookBlks B P) w w' ∧ (∀ g, blkOf P'.a = some g → blkOf P.a = some g ∨ w.heap.size ≤ g) ∧ (∀ g, blkOf P'.a' = some g → blkOf P.a' = some g ∨ w.heap.size ≤ g)

theorem bookNums_any {w : World} {base B : Nat} {N : Part Int} {M : Part Img} (h : BookIs w base B N M) (hbase : base ≤ w.heap.size) {r : Lst Int} (hr : Own kN w r.a r.cap r.L) (hrn : ∀ s ∈ N.R, ∀ g, blkOf s.a = some g → blkOf r.a ≠ some g) (hrb : ∀ g, blkOf r.a = some g → base ≤ g) (hrl : r.L.length ≤ 900000) :
    Calls Tryz.prog 10 #[.pointer (some ⟨B, 0, none⟩), .slice r.a r.L.length r.cap] w (BookPost (fun w' N' => BookIs w' base B N' M) B N r w) := by
  obtain ⟨cs, hB, hz, h4, h5, h10, h11, hN, hM, hln, hlm, hbB⟩ := h
  refine (addN_any hB h4 h5 hN hbase hln hr hrn hrb hrl).mono ?_
  rintro e w' ⟨rfl, P', cs', h1, h2, h3, h3', h6, h7, h8, h9, h9', hl⟩
  refine ⟨rfl, P', h1, ⟨cs', h2, fun i hi a b c d => ?_, h3, h3', ?_, ?_, h7, hM.chgT h8 (hN.othersB hB (by decide) (by decide) (by decide) (by decide)), hl, hlm, hbB⟩, h8, h9, h9'⟩
  · rw [h6 i a b]; exact hz i hi a b c d
  · rw [h6 10 (by decide) (by decide)]; exact h10
  · rw [h6 11 (by decide) (by decide)]; exact h11
theorem bookImages_any {w : World} {base B : Nat} {N : Part Int} {M : Part Img} (h : BookIs w base B N M) (hbase : base ≤ w.heap.size) {r : Lst Img} (hr : Own kM w r.a r.cap r.L) (hrn : ∀ s ∈ M.R, ∀ g, blkOf s.a = some g → blkOf r.a ≠ some g) (hrb : ∀ g, blkOf r.a = some g → base ≤ g) (hrl : r.L.length ≤ 900000) :
    Calls Tryz.prog 14 #[.pointer (some ⟨B, 0, none⟩), .slice r.a r.L.length r.cap] w (BookPost (fun w' M' => BookIs w' base B N M') B M r w) := by
  obtain ⟨cs, hB, hz, h4, h5, h10, h11, hN, hM, hln, hlm, hbB⟩ := h
  refine (addM_any hB h10 h11 hM hbase hlm hr hrn hrb hrl).mono ?_
  rintro e w' ⟨rfl, P', cs', h1, h2, h3, h3', h6, h7, h8, h9, h9', hl⟩
  refine ⟨rfl, P', h1, ⟨cs', h2, fun i hi a b c d => ?_, ?_, ?_, h3, h3', hN.chgT h8 (hM.othersB hB (by decide) (by decide) (by decide) (by decide)), h7, hln, hl, hbB⟩, h8, h9, h9'⟩
  · rw [h6 i c d]; exact hz i hi a b c d
  · rw [h6 4 (by decide) (by decide)]; exact h4
  · rw [h6 5 (by decide) (by decide)]; exact h5

theorem BookIs.chg0 {w w' : World} {base B : Nat} {N : Part Int} {M : Part Img} (h : BookIs w base B N M) (hc : Chg [] w w') : BookIs w' base B N M := by
  obtain ⟨cs, hB, hz, h4, h5, h10, h11, hN, hM, r⟩ := h
  exact ⟨cs, hB.chg hc (by simp), hz, h4, h5, h10, h11, hN.chg0 hc, hM.chg0 hc, r⟩
theorem BookIs.ltN {w : World} {base B : Nat} {N : Part Int} {M : Part Img} (h : BookIs w base B N M) {g : Nat} (hg : g ∈ bookBlks B N) : g < w.heap.size ∧ base ≤ g := by
  obtain ⟨cs, hB, hz, h4, h5, h10, h11, hN, hM, _, _, hb⟩ := h
  unfold bookBlks at hg
  rcases List.mem_cons.1 hg with rfl | hg
  · exact ⟨hB.lt, hb⟩
  · rcases List.mem_append.1 hg with hg | hg
    · have h1 : blkOf N.a = some g := by simpa using hg
      exact ⟨hN.rows.row.lt h1, hN.rows.new g h1⟩
    · have h1 : blkOf N.a' = some g := by simpa using hg
      exact ⟨hN.wrow.lt h1, hN.wnew g h1⟩
theorem BookIs.ltM {w : World} {base B : Nat} {N : Part Int} {M : Part Img} (h : BookIs w base B N M) {g : Nat} (hg : g ∈ bookBlks B M) : g < w.heap.size ∧ base ≤ g := by
  obtain ⟨cs, hB, hz, h4, h5, h10, h11, hN, hM, _, _, hb⟩ := h
  unfold bookBlks at hg
  rcases List.mem_cons.1 hg with rfl | hg
  · exact ⟨hB.lt, hb⟩
  · rcases List.mem_append.1 hg with hg | hg
    · have h1 : blkOf M.a = some g := by simpa using hg
      exact ⟨hM.rows.row.lt h1, hM.rows.new g h1⟩
    · have h1 : blkOf M.a' = some g := by simpa using hg
      exact ⟨hM.wrow.lt h1, hM.wnew g h1⟩
theorem BookIs.rowN {w : World} {base B : Nat} {N : Part Int} {M : Part Img} (h : BookIs w base B N M) : ∀ s ∈ N.R, ∀ g, blkOf s.a = some g → g < w.heap.size := by
  obtain ⟨cs, hB, hz, h4, h5, h10, h11, hN, hM, _⟩ := h
  exact fun s hs g hg => (hN.rows.each s hs).lt hg
theorem BookIs.rowM {w : World} {base B : Nat} {N : Part Int} {M : Part Img} (h : BookIs w base B N M) : ∀ s ∈ M.R, ∀ g, blkOf s.a = some g → g < w.heap.size := by
  obtain ⟨cs, hB, hz, h4, h5, h10, h11, hN, hM, _⟩ := h
  exact fun s hs g hg => (hM.rows.each s hs).lt hg
/-- a block of another type is none of the Book's -/
theorem BookIs.otherN {w : World} {base B : Nat} {N : Part Int} {M : Part Img} (h : BookIs w base B N M) {g : Nat} {cur : Array Value} {t : TypeId} (hg : Blk w g cur t) (h1 : (43 : TypeId) ≠ t) (h2 : (23 : TypeId) ≠ t) : g ∉ bookBlks B N := by
  obtain ⟨cs, hB, hz, h4, h5, h10, h11, hN, hM, _⟩ := h
  exact (hN.othersB hB (t := t) (t' := t) h1 h1 h2 h2).not ⟨cur, hg⟩
theorem BookIs.otherM {w : World} {base B : Nat} {N : Part Int} {M : Part Img} (h : BookIs w base B N M) {g : Nat} {cur : Array Value} {t : TypeId} (hg : Blk w g cur t) (h1 : (43 : TypeId) ≠ t) (h2 : (53 : TypeId) ≠ t) : g ∉ bookBlks B M := by
  obtain ⟨cs, hB, hz, h4, h5, h10, h11, hN, hM, _⟩ := h
  exact (hM.othersB hB (t := t) (t' := t) h1 h1 h2 h2).not ⟨cur, hg⟩

abbrev bookCells : Array Value := Array.replicate 30 (.slice none 0 0)
theorem BookIs.made (w : World) {base : Nat} (hb : base ≤ w.heap.size) : BookIs (w.alloc (.cells bookCells 43)) base w.heap.size ⟨none, 0, [], none, 0, []⟩ ⟨none, 0, [], none, 0, []⟩ := by
  have keep : ∀ {α : Type} (K : Kd α) (KK : Kd (Lst α)) (W : World), KeepAt K KK W base ⟨none, 0, [], none, 0, []⟩ := fun K KK W =>
    ⟨⟨Own.nil _ _, by simp, List.Pairwise.nil, by simp [blkOf], by simp, by simp⟩, Own.nil _ _, by simp, rfl, by simp [blkOf], by simp [blkOf]⟩
  refine ⟨bookCells, Blk.new _ _ _, fun i hi _ _ _ _ => ?_, by simp [bookCells], by simp [bookCells], by simp [bookCells], by simp [bookCells], keep _ _ _, keep _ _ _, by simp, by simp, hb⟩
  simp [bookCells, hi]

/-! ### the cuts, and the loop over them -/
abbrev Row1.lst (r : Row1) : Lst Int := ⟨r.a, r.cap, r.C⟩
theorem OwnUU.chgB {w w' : World} {base : Nat} {a : Option Addr} {cap : Nat} {R : List Row1} (h : OwnUU w base a cap R) {S : List Nat} (hc : Chg S w w') (hS : ∀ g ∈ S, g < base) (hrow : ∀ r ∈ R, ∀ g, blkOf r.a = some g → base ≤ g) : OwnUU w' base a cap R :=
  ⟨ownsRow_chg h.row hc (fun g hg hm => by have := (h.lt hg).1; have := hS g hm; omega), fun r hr => (h.each r hr).chg hc (fun g hg hm => by have := hrow r hr g hg; have := hS g hm; omega), h.full, h.apart⟩
theorem OwnUU.rows {w : World} {base : Nat} {a : Option Addr} {cap : Nat} {R : List Row1} (h : OwnUU w base a cap R) : ∀ r ∈ R, ∀ g, blkOf r.a = some g → base ≤ g := fun r hr g hg => ((h.each r hr).blk hg).1
theorem OwnUU.up {w w' : World} {base : Nat} {a : Option Addr} {cap : Nat} {R : List Row1} (h : OwnUU w base a cap R) {S : List Nat} (hc : Chg S w w') (hS : ∀ g ∈ S, g < base) : OwnUU w' base a cap R := h.chgB hc hS h.rows
/-- a list of cuts -/
theorem OwnUU.get {w : World} {base : Nat} {a : Option Addr} {cap : Nat} {R : List Row1} (h : OwnUU w base a cap R) {k : Nat} (hk : k < R.length) : ∃ g, a = some ⟨g, 0, none⟩ ∧ w.cell? ⟨g, k, none⟩ = some (R.getD k default).val ∧ Own kN w (R.getD k default).a (R.getD k default).cap (R.getD k default).C := by
  obtain ⟨g, hb, e1, e2, _⟩ := h.at_ hk
  exact ⟨g, e1, e2, (h.each _ (getD_mem hk)).own⟩
theorem uu_apart {R : List Row1} (h : R.Pairwise fun r s => blkOf r.a ≠ blkOf s.a) {j k : Nat} (hj : j < R.length) (hk : k < R.length) (hne : j ≠ k) : blkOf (R.getD j default).a ≠ blkOf (R.getD k default).a := by
  rw [List.pairwise_iff_getElem] at h
  rw [List.getD_eq_getElem?_getD, List.getElem?_eq_getElem hj, List.getD_eq_getElem?_getD, List.getElem?_eq_getElem hk]
  rcases Nat.lt_or_ge j k with hlt | hge
  · exact h j k hj hk hlt
  · exact fun e => h k j hk hj (by omega) e.symm

structure NumsInv (w3 wx : World) (base B lim : Nat) (N0 N : Part Int) (M : Part Img) (R : List Row1) (i : Nat) : Prop where
  book : BookIs wx base B N M
  rows : ∀ s ∈ N.R, (∀ g, blkOf s.a = some g → g < lim) ∨ ∃ j, j < i ∧ j < R.length ∧ s = (R.getD j default).lst
  chg : Chg (bookBlks B N0) w3 wx
  na : ∀ g ∈ bookBlks B N, g ∈ bookBlks B N0 ∨ w3.heap.size ≤ g

theorem NumsInv.start {w3 : World} {base B lim : Nat} {N : Part Int} {M : Part Img} {R : List Row1} (h : BookIs w3 base B N M) (hr : ∀ s ∈ N.R, ∀ g, blkOf s.a = some g → g < lim) : NumsInv w3 w3 base B lim N N M R 0 :=
  ⟨h, fun s hs => .inl (hr s hs), Chg.refl _ _, fun g hg => .inl hg⟩
theorem NumsInv.chg0 {w3 wx wy : World} {base B lim : Nat} {N0 N : Part Int} {M : Part Img} {R : List Row1} {i : Nat} (h : NumsInv w3 wx base B lim N0 N M R i) (hc : Chg [] wx wy) : NumsInv w3 wy base B lim N0 N M R i :=
  ⟨h.book.chg0 hc, h.rows, h.chg.trans (hc.mono (by simp)), h.na⟩
theorem NumsInv.next {w3 wx wy : World} {base B lim : Nat} {N0 N N' : Part Int} {M : Part Img} {R : List Row1} {i : Nat} (h : NumsInv w3 wx base B lim N0 N M R i) (hi : i < R.length) (h1 : N'.R = N.R ∨ N'.R = N.R ++ [(R.getD i default).lst]) (h2 : BookIs wy base B N' M) (h3 : Chg (bookBlks B N) wx wy)
    (h4 : ∀ g, blkOf N'.a = some g → blkOf N.a = some g ∨ wx.heap.size ≤ g) (h5 : ∀ g, blkOf N'.a' = some g → blkOf N.a' = some g ∨ wx.heap.size ≤ g) : NumsInv w3 wy base B lim N0 N' M R (i + 1) := by
  have hsz := h.chg.size
  refine ⟨h2, fun s hs => ?_, h.chg.step h3 (fun g hg => h.na g hg), fun g hg => ?_⟩
  · have hold : s ∈ N.R → (∀ g, blkOf s.a = some g → g < lim) ∨ ∃ j, j < i + 1 ∧ j < R.length ∧ s = (R.getD j default).lst := fun hs => by
      rcases h.rows s hs with h | ⟨j, hj, hjl, e⟩
      · exact .inl h
      · exact .inr ⟨j, by omega, hjl, e⟩
    rcases h1 with e | e
    · exact hold (e ▸ hs)
    · rw [e] at hs
      rcases List.mem_append.1 hs with hs | hs
      · exact hold hs
      · rw [List.mem_singleton.1 hs]; exact .inr ⟨i, by omega, hi, rfl⟩
  · unfold bookBlks at hg
    rcases List.mem_cons.1 hg with rfl | hg
    · exact .inl (by simp [bookBlks])
    · rcases List.mem_append.1 hg with hg | hg
      · rcases h4 g (by simpa using hg) with e | e
        · exact h.na g (by simp [bookBlks, e])
        · exact .inr (by omega)
      · rcases h5 g (by simpa using hg) with e | e
        · exact h.na g (by simp [bookBlks, e])
        · exact .inr (by omega)

/-! ### the two Plays -/
theorem play_tell {w : World} {la : Option Addr} {L : List Ev} (hL : EvRow w la L) (hl : ∀ e ∈ L, e.lies w) (hlen : L.length ≤ 400) (lc : Nat) (hlc : L.length ≤ lc) {ca : Option Addr} {C : List Int} (hC : NumsAt w ca C) (cc : Nat) {n : Nat} (hn : C.length = n) (hcc : n ≤ cc) {ok : Bool} (hok : playOk L C = ok) {I : List Img} (hI : (rplay L C).2 = I) :
    Calls Tryz.prog 12 #[.slice la L.length lc, .slice ca n cc] w fun x w' => ∃ (a : Option Addr) (cap : Nat), x = .returned (.tuple #[.bool ok, .slice a I.length cap]) ∧ Own kM w' a cap I ∧ (∀ g, blkOf a = some g → w.heap.size ≤ g) ∧ Chg [] w w' := by
  subst hn
  refine (play_any hL hl hlen lc hlc hC cc hcc).mono ?_
  rintro x w' ⟨⟨a, I', cap, rfl, ⟨h1, h2⟩, h3⟩, h4⟩
  have e : I' = I := (shows_one h3 (rplay_arr hL.1 C)).trans hI
  subst e
  exact ⟨a, cap, by rw [hok], h1, h2, (Chg.refl _ _).ofBelow h4⟩
theorem rplay_tell {w : World} {la : Option Addr} {L : List Ev} (hL : EvRow w la L) (hfit : ∀ e ∈ L, Fit w e) (hlen : L.length ≤ 400) (lc : Nat) {ca : Option Addr} {C : List Int} (hC : NumsAt w ca C) (cc : Nat) {n : Nat} (hn : C.length = n) {ok : Bool} (hok : playOk L C = ok) {I : List Img} (hI : (rplay L C).2 = I) :
    Calls Tryz.prog 13 #[.slice la L.length lc, .slice ca n cc] w fun x w' => ∃ (a : Option Addr) (cap : Nat), x = .returned (.tuple #[.bool ok, .slice a I.length cap]) ∧ Own kM w' a cap I ∧ I.length ≤ 100 * L.length ∧ Chg [] w w' := by
  subst hn
  refine (rplay_any hL hfit hlen lc hC cc).mono ?_
  rintro x w' ⟨a, cap, rfl, h1, h2, h4⟩
  have e := rplay_eq hL.1 C
  rw [hok] at e
  subst hI
  exact ⟨a, cap, by rw [e], h1, h2, (Chg.refl _ _).ofBelow h4⟩
theorem judge_tell {w : World} {la : Option Addr} {L : List Ev} (hL : EvRow w la L) (hl : ∀ e ∈ L, e.lies w) (hlen : L.length ≤ 400) (lc : Nat) (hlc : L.length ≤ lc) {b : Bool} (hb : judgeOk L = b) {c : Int} (hc : cutsErr L = c) :
    Calls Tryz.prog 18 #[.slice la L.length lc] w fun x w' => x = .returned (.tuple #[.bool b, .int .i64 c]) ∧ Chg [] w w' := by
  refine (judge_any hL hl hlen lc hlc).mono ?_
  rintro x w' ⟨rfl, h⟩
  exact ⟨by rw [hb, hc], (Chg.refl _ _).ofBelow h⟩
theorem rjudge_tell {w : World} {la : Option Addr} {L : List Ev} (hL : EvRow w la L) (hl : ∀ e ∈ L, Fit w e) (hlen : L.length ≤ 400) (lc : Nat) (hlc : L.length ≤ lc) {b : Bool} (hb : judgeOk L = b) {c : Int} (hc : cutsErr L = c) :
    Calls Tryz.prog 19 #[.slice la L.length lc] w fun x w' => x = .returned (.tuple #[.bool b, .int .i64 c]) ∧ Chg [] w w' := by
  refine (rjudge_any hL hl hlen lc hlc).mono ?_
  rintro x w' ⟨rfl, h⟩
  exact ⟨by rw [hb, hc], (Chg.refl _ _).ofBelow h⟩

def CutsTell (lim : Nat) (c : Int) (X : List (List Int)) (n : Nat) (w : World) (e : Ending) (w' : World) : Prop :=
  ∃ (a : Option Addr) (cap : Nat) (R : List Row1), e = .returned (.tuple #[.slice a n cap, .int .i64 c]) ∧ R.length = n ∧ R.map Row1.C = X ∧ OwnUU w' lim a cap R ∧ Chg [] w w'
def cutsOf (L : List Ev) : List (List Int) := if cutsErr L = 0 then chs L L.length else []
theorem CutsPost.tell {L : List Ev} {w w' : World} {e : Ending} (h : CutsPost L w e w') {c : Int} (hc : cutsErr L = c) {X : List (List Int)} (hX : cutsOf L = X) {n : Nat} (hn : X.length = n) : CutsTell w.heap.size c X n w e w' := by
  obtain ⟨a, cap, R, rfl, h1, h2, h3, h4⟩ := h
  have hR : R.map Row1.C = X := by
    rw [← hX]
    unfold cutsOf
    split
    · rename_i h0; exact h2 h0
    · rename_i h0; rw [h1 h0]; rfl
  have hl : R.length = n := by rw [← hn, ← hR, List.length_map]
  exact ⟨a, cap, R, by rw [hc, hl], hl, hR, h3, (Chg.refl _ _).ofBelow h4⟩
theorem cuts_tell {w : World} {la : Option Addr} {L : List Ev} (h : EvRow w la L) (hlen : L.length ≤ 400) (lc : Nat) (hlc : L.length ≤ lc) {c : Int} (hc : cutsErr L = c) {X : List (List Int)} (hX : cutsOf L = X) {n : Nat} (hn : X.length = n) :
    Calls Tryz.prog 8 #[.slice la L.length lc] w (CutsTell w.heap.size c X n w) := (cuts_any h hlen lc hlc).mono fun _ _ h => h.tell hc hX hn
theorem rcuts_tell {w : World} {la : Option Addr} {L : List Ev} (h : EvRow w la L) (hlen : L.length ≤ 400) (lc : Nat) (hlc : L.length ≤ lc) {c : Int} (hc : cutsErr L = c) {X : List (List Int)} (hX : cutsOf L = X) {n : Nat} (hn : X.length = n) :
    Calls Tryz.prog 9 #[.slice la L.length lc] w (CutsTell w.heap.size c X n w) := (rcuts_any h hlen lc hlc).mono fun _ _ h => h.tell hc hX hn
theorem cutsOf_small {L : List Ev} (h : ∀ e ∈ L, e.ok) : ∀ c ∈ cutsOf L, c.length ≤ 3000 := by
  unfold cutsOf
  split
  · rename_i h0; exact chs_small0 h h0
  · simp
theorem cutsOf_few (L : List Ev) : (cutsOf L).length ≤ L.length := by
  unfold cutsOf
  split
  · exact chs_length L _
  · simp

theorem OwnR.chgT {w w' : World} {a : Option Addr} {cap : Nat} {L : List Ev} (h : OwnR w a cap L) {S : List Nat} (hc : Chg S w w') (hS : ∀ g cur, Blk w g cur 71 → g ∉ S) : OwnR w' a cap L :=
  h.chg hc fun g hg => by
    obtain ⟨c, hB⟩ := h.blk hg
    exact hS g c hB
theorem OwnR.cap_ge {w : World} {a : Option Addr} {cap : Nat} {L : List Ev} (h : OwnR w a cap L) : L.length ≤ cap := by
  obtain ⟨_, ⟨_, rfl, rfl⟩ | ⟨g, cur, rfl, hB, h2, _⟩⟩ := h
  · simp
  · exact h2
theorem Lent.nums {w : World} {g cap : Nat} {C : List Int} (h : Lent w g cap C) (hok : ∀ x ∈ C, wfu64 x) (hl : C.length ≤ 1000000) : NumsAt w (some ⟨g, 0, none⟩) C := by
  refine ⟨hok, hl, .inr ⟨g, 0, rfl, fun k hk => ?_⟩⟩
  obtain ⟨b, o, e, hc⟩ := h.rd.atN hk
  cases e
  exact hc
theorem Src.nums {w : World} {a : Option Addr} {n cap : Nat} {C : List Int} (h : Src kN w (.slice a n cap) C) (hl : C.length ≤ 1000000) : NumsAt w a C := by
  obtain ⟨h1, ⟨_, rfl⟩ | ⟨p, c, he, rfl | hsp, h2⟩⟩ := h
  · exact ⟨by simp, hl, .inl rfl⟩
  · exact ⟨by simp, hl, .inl rfl⟩
  · obtain ⟨g, o, sp⟩ := p
    simp only at hsp h2
    subst hsp
    cases he
    refine ⟨h1, hl, .inr ⟨g, o, rfl, fun k hk => ?_⟩⟩
    have h3 : w.cell? ⟨g, o + (k * 1 + 0), none⟩ = some (.int .u64 (C.getD k default)) := h2 k hk 0 (by decide)
    rwa [Nat.mul_one, Nat.add_zero] at h3
theorem Src.rd {w : World} {a : Option Addr} {n cap : Nat} {C : List Int} (h : Src kN w (.slice a n cap) C) : Rd kN w a C := by
  obtain ⟨h1, ⟨_, rfl⟩ | ⟨p, c, he, rfl | hsp, h2⟩⟩ := h
  · exact .inl rfl
  · exact .inl rfl
  · obtain ⟨g, o, sp⟩ := p
    simp only at hsp h2
    subst hsp
    cases he
    exact .inr ⟨g, o, rfl, h2⟩
/-- what is handed in, few and short -/
structure In (w : World) (la : Option Addr) (L : List Ev) : Prop where
  row : EvRow w la L
  fit : ∀ e ∈ L, Fit w e
theorem In.chg0 {w w' : World} {la : Option Addr} {L : List Ev} (h : In w la L) (hc : Chg [] w w') : In w' la L := ⟨h.row.chgN hc (by simp), fun e he => (h.fit e he).chgN hc (by simp)⟩
theorem In.lies {w : World} {la : Option Addr} {L : List Ev} (h : In w la L) : ∀ e ∈ L, e.lies w := fun e he => (h.fit e he).lies
theorem EvRowW.in {w : World} {la : Option Addr} {L : List Ev} (h : EvRowW w la L) (hl : L.length ≤ 210) (hs : ∀ x ∈ L, ImgsW.light x.rs ∧ ImgsW.light x.ws) : In w la L :=
  ⟨⟨h.1, by omega, h.2.2.1⟩, fun e he => ⟨h.1 e he, ⟨(h.2.2.2 e he).1.imgs (hs e he).1, (h.2.2.2 e he).2.imgs (hs e he).2⟩, by have := (hs e he).2.1; omega⟩⟩

end Go.Proofs.YteokjobkjmibfaaGreat
