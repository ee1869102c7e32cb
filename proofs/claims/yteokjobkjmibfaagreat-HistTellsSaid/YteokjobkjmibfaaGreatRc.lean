/- The reference's write, walked. Condition: what it is handed can be read; at most a million images. -/
import Derived.Test.YteokjobkjmibfaaGreatRb
namespace Go.Proofs.YteokjobkjmibfaaGreat
open Go.RowKit Go.Maps

def rk (A : List Img) (b : Int) : Nat := (A.takeWhile fun i => decide (i.block < b)).length
def rrest (A : List Img) (b : Int) : List Img := if rk A b < A.length ∧ (A.getD (rk A b) default).block = b then A.drop (rk A b + 1) else A.drop (rk A b)
def rput (A : List Img) (x : Img) : List Img := A.take (rk A x.block) ++ [x] ++ rrest A x.block
def rwrite (A L : List Img) : List Img := L.foldl (fun A i => rput A ⟨i.block, 0, i.data⟩) A

theorem rk_le (A : List Img) (b : Int) : rk A b ≤ A.length := by
  unfold rk
  have := (List.takeWhile_sublist (fun i : Img => decide (i.block < b)) (l := A)).length_le
  omega
theorem rrest_le (A : List Img) (b : Int) : (rrest A b).length ≤ A.length - rk A b := by
  unfold rrest
  split <;> simp <;> omega
theorem rput_le (A : List Img) (x : Img) : (rput A x).length ≤ A.length + 1 := by
  have h1 := rk_le A x.block
  have h2 := rrest_le A x.block
  unfold rput
  simp only [List.length_append, List.length_take, List.length_cons, List.length_nil]
  omega
theorem rwrite_le (A L : List Img) : (rwrite A L).length ≤ A.length + L.length := by
  unfold rwrite
  induction L generalizing A with
  | nil => simp
  | cons x r ih =>
    simp only [List.foldl_cons, List.length_cons]
    have h1 := ih (rput A ⟨x.block, 0, x.data⟩)
    have h2 := rput_le A ⟨x.block, 0, x.data⟩
    omega
theorem take_rk (A : List Img) (b : Int) : A.take (rk A b) = A.takeWhile fun i => decide (i.block < b) := by
  unfold rk
  induction A with
  | nil => rfl
  | cons x r ih =>
    by_cases h : x.block < b
    · simp only [List.takeWhile_cons, decide_eq_true h, if_true, List.length_cons, List.take_succ_cons]; rw [ih]
    · simp only [List.takeWhile_cons, decide_eq_false h]; rfl
theorem rk_lt {A : List Img} {b : Int} : ∀ {j : Nat}, j < A.length → j ≤ rk A b → ((A.getD j default).block < b ↔ j + 1 ≤ rk A b) := by
  induction A with
  | nil => intro j hj; simp at hj
  | cons x r ih =>
    intro j hj hk
    by_cases h : x.block < b
    · have hr : rk (x :: r) b = rk r b + 1 := by unfold rk; simp [List.takeWhile_cons, h]
      rw [hr] at hk ⊢
      cases j with
      | zero => simp [h]
      | succ j =>
        have := ih (j := j) (by simpa using hj) (by omega)
        simp only [List.getD_cons_succ]
        omega
    · have hr : rk (x :: r) b = 0 := by unfold rk; simp [List.takeWhile_cons, h]
      rw [hr] at hk ⊢
      obtain rfl : j = 0 := by omega
      simp [h]

theorem rwrite_step {A L : List Img} {k : Nat} (h : k < L.length) : rwrite A (L.take (k + 1)) = rput (rwrite A (L.take k)) ⟨(L.getD k default).block, 0, (L.getD k default).data⟩ := by
  unfold rwrite
  rw [take_step h, List.foldl_append]; rfl

theorem RowM.shape {w : World} {v : Value} {A : List Img} (h : RowM w v A) (hl : A.length ≤ 1000000) : ∃ a c, v = .slice a A.length c ∧ A.length ≤ c ∧ ImgsAt w a A ∧ (a = none → c = 0 ∧ A = []) := by
  obtain ⟨h1, ⟨rfl, rfl⟩ | ⟨g, o, c, rfl, h2, h3⟩⟩ := h
  · exact ⟨none, 0, rfl, Nat.le_refl _, ⟨h1, hl, .inl rfl⟩, fun _ => ⟨rfl, rfl⟩⟩
  · exact ⟨some ⟨g, o, none⟩, c, rfl, h2, (RowM.imgs ⟨h1, .inr ⟨g, o, c, rfl, h2, h3⟩⟩ hl).2, by simp⟩

theorem rowm_drop_none {w : World} {B : List Img} {r : Nat} (hB : B.length ≤ 0) : RowM w (.slice none (B.length - r) 0) (B.drop r) := by
  obtain rfl : B = [] := List.eq_nil_of_length_eq_zero (by omega)
  exact ⟨by simp, .inl ⟨by simp, by simp⟩⟩
theorem rowm_drop_end {w : World} {B : List Img} {r rc g o : Nat} (hr : rc = r) (h : B.length ≤ rc) : RowM w (.slice (some ⟨g, o, none⟩) (B.length - r) (rc - r)) (B.drop r) := by
  have h0 : B.drop r = [] := List.drop_eq_nil_of_le (by omega)
  rw [h0]
  exact ⟨by simp, .inr ⟨g, o, rc - r, by simp; omega, by simp, by simp⟩⟩
theorem rowm_drop {w : World} {B : List Img} {r rc g o : Nat} (hok : ∀ i ∈ B, i.ok) (hl : B.length ≤ rc) (h : ∀ k, k < B.length → ∀ r, r < 3 → w.cell? ⟨g, o + (k * 3 + r), none⟩ = (Img.three (B.getD k default))[r]?) : RowM w (.slice (some ⟨g, o + r * 3, none⟩) (B.length - r) (rc - r)) (B.drop r) := by
  refine ⟨fun i hi => hok i (List.mem_of_mem_drop hi), .inr ⟨g, o + r * 3, rc - r, by rw [List.length_drop], by rw [List.length_drop]; omega, fun k hk q hq => ?_⟩⟩
  rw [List.length_drop] at hk
  have := h (r + k) (by omega) q hq
  rw [show o + ((r + k) * 3 + q) = o + r * 3 + (k * 3 + q) by omega] at this
  rw [this]
  simp [List.getD_eq_getElem?_getD]

set_option maxHeartbeats 4000000 in
theorem rwrite_any {w : World} {a l : Option Addr} {cap : Nat} {A L : List Img} (h : OwnM w a cap A) (hL : ImgsAt w l L) (hn : A.length + L.length ≤ 100000) (cap' : Nat) :
    Calls Tryz.prog 34 #[.slice a A.length cap, .slice l L.length cap'] w fun e w' => ∃ (a' : Option Addr) (cap2 : Nat), e = .returned (.slice a' (rwrite A L).length cap2) ∧ OwnM w' a' cap2 (rwrite A L) ∧ Below w.heap.size w w' := by
  have hbig := hL.2.1
  go_enter Tryz.func34, Tryz.ntmps34
  go_wp2_with fail
  go_loopg [0, 5] L.length (fun q s0 s5 wr => ∃ k : Nat, k ≤ L.length ∧ q = L.length - k ∧ s5 = .int .i64 k ∧ ∃ (ra : Option Addr) (rc : Nat), s0 = .slice ra (rwrite A (L.take k)).length rc ∧ OwnM wr ra rc (rwrite A (L.take k)) ∧ Chg [] w wr)
  case atStart => exact ⟨0, Nat.zero_le _, rfl, rfl, a, cap, rfl, h, Chg.refl _ _⟩
  case round =>
    obtain ⟨k, hk, rfl, rfl, ra, rc, rfl, hO, hC⟩ := hrel
    have hR := hO.rowM
    have hlen : (rwrite A (L.take k)).length ≤ 100000 := by have := rwrite_le A (L.take k); rw [List.length_take] at this; omega
    by_cases hlt : k < L.length
    case neg =>
      obtain rfl : k = L.length := by omega
      obtain ⟨B, hB⟩ : ∃ B, rwrite A (L.take L.length) = B := ⟨_, rfl⟩
      have hB2 : rwrite A L = B := by rw [← hB, List.take_length]
      rw [hB] at hO ⊢
      have HB2 := Lib.hid hB2
      have HR := Lib.hid hO
      clear hB2 hB hR hO
      go_wp2_with fail
      go_ret
      exact ⟨ra, rc, by rw [HB2.out]; rfl, by rw [HB2.out]; exact HR.out, hC.below (Nat.le_refl _) (by simp)⟩
    case pos =>
      obtain ⟨bb, oo, rfl, c0, c1, c2, hok⟩ := (hL.chg hC (by simp)).at_ hlt
      obtain ⟨B, hB⟩ : ∃ B, rwrite A (L.take k) = B := ⟨_, rfl⟩
      obtain ⟨im, him⟩ : ∃ im, L.getD k default = im := ⟨_, rfl⟩
      have hnx : rwrite A (L.take (k + 1)) = rput B ⟨im.block, 0, im.data⟩ := by rw [rwrite_step hlt, hB, him]
      rw [hB] at hR hlen ⊢
      clear hO
      rw [him] at c0 c1 c2 hok
      have HNX := Lib.hid hnx
      have HOK := Lib.hid hok
      clear hnx him hB hok
      obtain ⟨ib, iv, idt⟩ := im
      simp only at c0 c1 c2
      obtain ⟨ra2, rc2, he2, hrc, hRI, hnone⟩ := hR.shape (by omega)
      injection he2 with e21 e22 e23
      subst e21 e23
      clear e22
      have HR := Lib.hid hR
      have HNONE := Lib.hid hnone
      clear hR hnone
      have hbb := lt_of_cell c0
      have d0 := ((((Chg.refl [] wr).alloc (.cells #[.int .i64 0, .int .u64 0, .string ⟨#[]⟩] 69)).drew).cell hbb (by simp)).trans c0
      have d2 := ((((Chg.refl [] wr).alloc (.cells #[.int .i64 0, .int .u64 0, .string ⟨#[]⟩] 69)).drew).cell (lt_of_cell c2) (by simp)).trans c2
      go_wp2_with fail
      go_region
      go_upto_block 2 with (fail)
      have hBx : Blk ((wr.alloc (.cells #[.int .i64 ib, .int .u64 0, .string idt] 69)).drew) wr.heap.size #[.int .i64 ib, .int .u64 0, .string idt] 69 := Blk.newDrew _ _ _ rfl
      have hCx : Chg [] wr ((wr.alloc (.cells #[.int .i64 ib, .int .u64 0, .string idt] 69)).drew) := ((Chg.refl _ _).alloc _).drew
      clear d0 d2 c0 c1 c2
      generalize (wr.alloc (.cells #[.int .i64 ib, .int .u64 0, .string idt] 69)).drew = W3 at hBx hCx ⊢
      go_cut [7] (fun s7 wi => s7 = .int .i64 (rk B ib : Nat) ∧ Chg [] W3 wi)
      case first =>
        go_wp2_with fail
        go_loopg [7] B.length (fun q s7 wi => ∃ j : Nat, j ≤ B.length ∧ q = B.length - j ∧ s7 = .int .i64 j ∧ j ≤ rk B ib ∧ Chg [] W3 wi)
        case atStart => exact ⟨0, Nat.zero_le _, rfl, rfl, Nat.zero_le _, Chg.refl _ _⟩
        case round =>
          obtain ⟨j, hj, rfl, rfl, hjk, hCj⟩ := hrel
          have hb0 := (hBx.chg hCj (by simp)).cell 0 rfl
          by_cases hjl : j < B.length
          case neg =>
            have hje : j = rk B ib := by have := rk_le B ib; omega
            have HJE := Lib.hid hje
            clear hje
            go_wp2_with fail
            go_quiet (fail)
            go_wp2_with fail
            go_meet
            exact ⟨by rw [HJE.out], hCj.drewN _⟩
          case pos =>
            obtain ⟨gb, go_, rfl, e0, e1, e2, _⟩ := (hRI.chg (hCx.trans hCj) (by simp)).at_ hjl
            have hiff := rk_lt hjl hjk
            generalize B.getD j default = bj at e0 e1 e2 hiff
            obtain ⟨jb, jv, jd⟩ := bj
            simp only at e0 e1 e2 hiff
            by_cases hjb : jb < ib
            case pos =>
              have hnx := hiff.1 hjb
              have HNX2 := Lib.hid hnx
              clear hnx hiff
              go_wp2_with fail
              go_quiet (fail)
              go_wp2_with fail
              go_roundg (B.length - (j + 1))
              case measure => omega
              case rel => exact ⟨j + 1, by omega, rfl, by go_num, HNX2.out, hCj.drewN _⟩
            case neg =>
              have hje : j = rk B ib := by by_cases h0 : j + 1 ≤ rk B ib; exact absurd (hiff.2 h0) hjb; omega
              have HJE := Lib.hid hje
              clear hje hiff
              go_wp2_with fail
              go_quiet (fail)
              go_wp2_with fail
              go_meet
              exact ⟨by rw [HJE.out], hCj.drewN _⟩
      case rest =>
        obtain ⟨rfl, hCj⟩ := hcut
        have hCw := hCx.trans hCj
        have hR2 := HR.out.chgN hCw (by simp)
        have HR2 := Lib.hid hR2
        have hkl := rk_le B ib
        clear hR2 hRI
        go_upto_region 8 with (fail)
        go_cut [8] (fun s8 wi => wc = wi ∧ RowM wc s8 (B.drop (rk B ib)))
        case first =>
          rcases HR2.out with ⟨hok2, ⟨he, hB0⟩ | ⟨g, o, c, he, hlc, hcells⟩⟩
          · injection he with h4 h5 h6
            subst h4 h6
            have hlb : B.length ≤ 0 := by rw [hB0]; exact Nat.le_refl _
            have hk0 : rk B ib ≤ 0 := by omega
            have hq1 : (0 = rk B ib) = True := by simp; omega
            have hq2 : (rk B ib = 0) = True := by simp; omega
            clear h5 hB0
            go_wp2_with fail
            go_meet
            exact ⟨rfl, rowm_drop_none hlb⟩
          · injection he with h4 h5 h6
            subst h4 h6
            clear h5
            have HCL := Lib.hid hcells
            have HOK2 := Lib.hid hok2
            clear hcells hok2
            by_cases hq : rc = rk B ib
            · have hq1 : (rc = rk B ib) = True := by simp [hq]
              have HQ := Lib.hid hq
              clear hq
              go_wp2_with fail
              go_meet
              exact ⟨rfl, rowm_drop_end HQ.out hlc⟩
            · go_wp2_with fail
              go_meet
              exact ⟨rfl, rowm_drop HOK2.out hlc HCL.out⟩
        case rest =>
          obtain ⟨rfl, hR8⟩ := hcut
          have HR8 := Lib.hid hR8
          clear hR8
          go_upto_region 9 with (fail)
          go_cut [58] (fun s58 wi => ∃ q, s58 = .bool q ∧ q = decide (rk B ib < B.length ∧ (B.getD (rk B ib) default).block = ib) ∧ Chg [] wc wi)
          case first =>
            have hb0 := (hBx.chg hCj (by simp)).cell 0 rfl
            by_cases hjl : rk B ib < B.length
            case neg =>
              have hd : decide (rk B ib < B.length ∧ (B.getD (rk B ib) default).block = ib) = false := by simp [hjl]
              have HD := Lib.hid hd
              clear hd
              go_quiet (fail)
              go_wp2_with fail
              go_meet
              exact ⟨_, rfl, by rw [HD.out], (Chg.refl _ _).drewN _⟩
            case pos =>
              obtain ⟨_, hRI2⟩ := HR2.out.imgs (by omega)
              obtain ⟨gb, go_, rfl, e0, e1, e2, _⟩ := hRI2.at_ hjl
              obtain ⟨bj, hbj⟩ : ∃ bj, B.getD (rk B ib) default = bj := ⟨_, rfl⟩
              rw [hbj] at e0 e1 e2
              have HBJ := Lib.hid hbj
              clear hbj
              obtain ⟨jb, jv, jd⟩ := bj
              simp only at e0 e1 e2
              have hd : decide (rk B ib < B.length ∧ (B.getD (rk B ib) default).block = ib) = decide (jb = ib) := by rw [HBJ.out]; simp [hjl]
              have HD := Lib.hid hd
              clear hd
              by_cases hjb : jb = ib
              · have hq2 : (jb == ib) = true := by simp [hjb]
                have HJB := Lib.hid hjb
                clear hjb
                go_quiet (fail)
                go_wp2_with fail
                go_meet
                exact ⟨_, rfl, by rw [HD.out, HJB.out]; simp, (Chg.refl _ _).drewN _⟩
              · have hq2 : (jb == ib) = false := by simp [hjb]
                go_quiet (fail)
                go_wp2_with fail
                go_meet
                exact ⟨_, rfl, by rw [HD.out]; simp [hjb], (Chg.refl _ _).drewN _⟩
          case rest =>
            obtain ⟨q, rfl, hq9, hC9⟩ := hcut
            go_upto_if 58 with (fail)
            go_cut [8] (fun s8 wi => wc = wi ∧ RowM wi s8 (rrest B ib))
            case first =>
              by_cases hd : rk B ib < B.length ∧ (B.getD (rk B ib) default).block = ib
              case neg =>
                have hrr : rrest B ib = B.drop (rk B ib) := by unfold rrest; rw [if_neg hd]
                obtain rfl : q = false := by rw [hq9]; exact decide_eq_false hd
                clear hq9
                have HRR := Lib.hid hrr
                clear hrr hd
                go_wp2_with fail
                go_meet
                exact ⟨rfl, by rw [HRR.out]; exact HR8.out.chgN hC9 (by simp)⟩
              case pos =>
                have hrr : rrest B ib = B.drop (rk B ib + 1) := by unfold rrest; rw [if_pos hd]
                obtain rfl : q = true := by rw [hq9]; exact decide_eq_true hd
                clear hq9
                have HRR := Lib.hid hrr
                have hjl := hd.1
                clear hrr hd
                rcases HR2.out.chgN hC9 (by simp) with ⟨hok2, ⟨he, hB0⟩ | ⟨g, o, c, he, hlc, hcells⟩⟩
                · rw [hB0] at hjl; simp at hjl
                · injection he with h4 h5 h6
                  subst h4 h6
                  clear h5
                  have HCL := Lib.hid hcells
                  have HOK2 := Lib.hid hok2
                  clear hcells hok2
                  by_cases hq : rc = rk B ib + 1
                  · have hq1 : (rc = rk B ib + 1) = True := by simp [hq]
                    have HQ := Lib.hid hq
                    clear hq
                    go_wp2_with fail
                    go_meet
                    exact ⟨rfl, by rw [HRR.out]; exact rowm_drop_end HQ.out hlc⟩
                  · go_wp2_with fail
                    go_meet
                    exact ⟨rfl, by rw [HRR.out]; exact rowm_drop HOK2.out hlc HCL.out⟩
            case rest =>
              obtain ⟨rfl, hRR⟩ := hcut
              have HRR := Lib.hid hRR
              clear hRR
              have hCx9 := hCw.trans hC9
              go_upto_region 11 with (fail)
              have hBw := hBx.chg (hCj.trans hC9) (by simp)
              obtain ⟨b3, hb3⟩ : ∃ b3, wr.heap.size = b3 := ⟨_, rfl⟩
              rw [hb3] at hBw
              simp only [hb3]
              have HT := Lib.hid (rowm_take hkl (HR2.out.chgN hC9 (by simp)))
              have HX : Hid ((⟨ib, 0, idt⟩ : Img).ok) := Lib.hid (by have := HOK.out; unfold Img.ok at this ⊢; simp only at this ⊢; exact ⟨this.1, by unfold wfu64; rfl, this.2.2⟩)
              have hl1 : (B.take (rk B ib)).length = rk B ib := by rw [List.length_take]; omega
              have HL1 := Lib.hid hl1
              have hl2 : (B.take (rk B ib) ++ [(⟨ib, 0, idt⟩ : Img)]).length = rk B ib + 1 := by rw [List.length_append, hl1]; rfl
              have HL2 := Lib.hid hl2
              have hl3 : rk B ib + 1 + (rrest B ib).length = (rput B ⟨ib, 0, idt⟩).length := by unfold rput; rw [List.length_append, hl2]
              have HL3 := Lib.hid hl3
              have hsm : (rrest B ib).length < 1000000 := by have := rrest_le B ib; omega
              have HSM := Lib.hid hsm
              have c0 := hBw.cell 0 rfl
              have c1 := hBw.cell 1 rfl
              have c2 := hBw.cell 2 rfl
              have hblt := hBw.lt
              clear hl1 hl2 hl3 hsm
              have f1 : (0 : Int) ≤ (rk B ib : Int) := by omega
              have f2 : (rk B ib : Int) ≤ (rc : Int) := by omega
              have f3 : (rk B ib : Int) ≤ (B.length : Int) := by omega
              go_region_held3 (fun w' => w'.cell? ⟨b3, 0, none⟩ = some (.int .i64 ib) ∧ w'.cell? ⟨b3, 1, none⟩ = some (.int .u64 0) ∧ w'.cell? ⟨b3, 2, none⟩ = some (.string idt))
                (first
                  | (refine ⟨(hBw.chg hA7.chg (by simp)).cell 0 rfl, (hBw.chg hA7.chg (by simp)).cell 1 rfl, (hBw.chg hA7.chg (by simp)).cell 2 rfl⟩)
                  | (refine ⟨(hBw.chg hA6.chg (by simp)).cell 0 rfl, (hBw.chg hA6.chg (by simp)).cell 1 rfl, (hBw.chg hA6.chg (by simp)).cell 2 rfl⟩)
                  | (refine ⟨(hBw.chg hA5.chg (by simp)).cell 0 rfl, (hBw.chg hA5.chg (by simp)).cell 1 rfl, (hBw.chg hA5.chg (by simp)).cell 2 rfl⟩)
                  | go_keep)
                (first
                  | ((refine step_appendMg _ (by rfl) _ _ (by rfl) none 0 0 [] (by rfl) (by rfl) (OwnM.nil _) (by decide) (.slice ra (rk B ib) rc) (B.take (rk B ib)) (rk B ib) (by rfl) (by first | exact HT.out.chgN (Chg.refl [] wc).drew (by simp) | exact HT.out.chgN ((Chg.refl [] wc).alloc _).drew (by simp) | exact HT.out.chgN ((Chg.refl [] wc).drew.alloc _) (by simp)) (by rw [HL1.out]; omega) (by rw [HL1.out]; omega) ?_; intro a5 cap5 w5 hO5 hg5 hat5; have hA5 : Apd wc w5 a5 := (by first | exact Apd.first (Chg.refl [] wc).drew hg5 hat5 | exact Apd.first ((Chg.refl [] wc).alloc _).drew hg5 hat5 | exact Apd.first ((Chg.refl [] wc).drew.alloc _) hg5 hat5)))
                  | ((refine step_appendMg _ (by rfl) _ _ (by rfl) a5 cap5 (rk B ib) (B.take (rk B ib)) HL1.out (by rfl) (by exact hO5.chg ((Chg.refl [] w5).alloc (.cells #[.int .i64 ib, .int .u64 0, .string idt] 69)) (by simp)) (by rw [HL1.out]; omega) (.slice (some ⟨w5.heap.size, 0, none⟩) 1 1) [⟨ib, 0, idt⟩] (rk B ib + 1) (by rfl) (by exact rowm_one HX.out (Blk.newAt _ _ _ rfl)) (by simp) (by rfl) ?_; intro a6 cap6 w6 hO6 hg6 hat6; have hA6 : Apd wc w6 a6 := hA5.next ((Chg.refl [] w5).alloc _) hg6 hat6))
                  | ((refine step_appendMg _ (by rfl) _ _ (by rfl) a5 cap5 (rk B ib) (B.take (rk B ib)) HL1.out (by rfl) (by exact hO5) (by rw [HL1.out]; omega) (.slice (some ⟨wc.heap.size, 0, none⟩) 1 1) [⟨ib, 0, idt⟩] (rk B ib + 1) (by rfl) (by first | exact rowm_one HX.out ((Blk.newDrew _ _ _ rfl).grown hg5 (by simp [blkOf])) | exact rowm_one HX.out ((Blk.newAt _ _ _ rfl).grown hg5 (by simp [blkOf]))) (by simp) (by rfl) ?_; intro a6 cap6 w6 hO6 hg6 hat6; have hA6 : Apd wc w6 a6 := hA5.next (Chg.refl [] w5) hg6 hat6))
                  | ((refine step_appendMg _ (by rfl) _ _ (by rfl) a6 cap6 (rk B ib + 1) (B.take (rk B ib) ++ [⟨ib, 0, idt⟩]) HL2.out (by rfl) (by exact hO6) (by rw [HL2.out]; omega) u8 (rrest B ib) (rput B ⟨ib, 0, idt⟩).length (by rfl) (by exact HRR.out.chgN hA6.chg (by simp)) HSM.out HL3.out ?_; intro a7 cap7 w7 hO7 hg7 hat7; have hA7 : Apd wc w7 a7 := hA6.next (Chg.refl [] w6) hg7 hat7))
                  | (fail))
              all_goals
                have hRX : OwnM w7 a7 cap7 (rput B ⟨ib, 0, idt⟩) := hO7
                have HRX := Lib.hid hRX
                have hCf := hC.trans (hCx9.trans hA7.chg)
                clear hRX
                go_wp2_with fail
                go_roundg (L.length - (k + 1))
                case measure => omega
                case rel => exact ⟨k + 1, by omega, rfl, by go_num, a7, cap7, by rw [HNX.out], by rw [HNX.out]; exact HRX.out, hCf⟩

end Go.Proofs.YteokjobkjmibfaaGreat
