/- The function LeaseSafe returns true at every term, all steps of both clocks and all waits, and nothing that was there turns. Condition: the slices read as slices of whole numbers. -/
import Derived.Test.YtbekjfbaelobdaaPs
import Derived.Test.YtbekjfbaelobdaaV
import Derived.Test.YtbekjfbaelobdaaL
import Derived.Deep.DeepCutAuto
import Derived.Deep.LoopGhost
namespace Go.Proofs.Ytbekjfbaelobdaa
open Go.RowKit Go.Maps

theorem i64_and63 (n : Int) : bits .and .i64 n 63 = n % 64 := by
  have h63 : (BitVec.ofInt 64 63).toNat = 2 ^ 6 - 1 := by decide
  have key : (BitVec.ofInt 64 n &&& BitVec.ofInt 64 63).toNat = (n % ((2 ^ 64 : Nat) : Int)).toNat % 2 ^ 6 := by
    rw [BitVec.toNat_and, BitVec.toNat_ofInt, h63, Nat.and_two_pow_sub_one_eq_mod]
  show IntKind.i64.wrap ((BitVec.ofInt 64 n &&& BitVec.ofInt 64 63).toNat : Nat) = n % 64
  rw [key, IntKind.wrap_i64]
  omega

/-- where the five things lie, and that they lie apart: own tells whose a block is -/
structure Lies (w wr : World) (ca cb mb mm tb tm_ : Nat) (FA FB : List Nat) (ga : Option Addr) (own : Nat → Nat) : Prop where
  a : ∀ k ∈ FA, own k = 1 ∧ w.heap.size ≤ k ∧ k < wr.heap.size
  b : ∀ k ∈ FB, own k = 2 ∧ w.heap.size ≤ k ∧ k < wr.heap.size
  m : ∀ k ∈ [mb, mm], own k = 3 ∧ w.heap.size ≤ k ∧ k < wr.heap.size
  t : ∀ k ∈ [tb, tm_], own k = 4 ∧ w.heap.size ≤ k ∧ k < wr.heap.size
  g : ∀ k, blkOf ga = some k → own k = 5 ∧ w.heap.size ≤ k ∧ k < wr.heap.size

/-- all that holds of the memory in the loops: whose blocks lie where, and what they hold -/
structure Mem (w : World) (ca cb mb mm tb tm_ : Nat) (n : Nat) (s : LS) (term : Int) (ga : Option Addr) (cap : Nat) (wr : World) : Prop where
  lies : ∃ FA FB own, Lies w wr ca cb mb mm tb tm_ FA FB ga own ∧ ClockAt wr ca FA s.sA ∧ ClockAt wr cb FB s.sB
  mine : MineAt wr mb mm s.m
  table : TableAt wr tb tm_ (2 * term) n s.f
  way : ∃ xs, OwnW wr ga cap s.ats.length xs ∧ WayI xs s.ats
  chg : Chg [] w wr

section
variable {w wr wn : World} {ca cb mb mm tb tm_ n n' : Nat} {s : LS} {term : Int} {ga : Option Addr} {cap : Nat} {FA FB : List Nat} {own : Nat → Nat}

/-- the clock a has gone on -/
theorem Mem.stepA (h : Mem w ca cb mb mm tb tm_ n s term ga cap wr) (x : Int) (hs : s.sA.ok) (x0 : -9223372036854775808 ≤ x) (x1 : x ≤ 9223372036854775807) :
    Calls Try.prog 21 #[.pointer (some ⟨ca, 0, none⟩), .int .i64 x] wr fun e w' => e = .returned (.int .i64 (s.sA.step x).now) ∧ Mem w ca cb mb mm tb tm_ n { s with sA := s.sA.step x } term ga cap w' := by
  obtain ⟨⟨FA, FB, own, hL, hA, hB⟩, hM, hT, ⟨xs, hW, hI⟩, hC⟩ := h
  refine (clockStep hA hs x x0 x1).mono fun e w' ⟨he, F', hA', hCh, hF⟩ => ⟨he, ?_⟩
  have hsz := hCh.size
  have hlt := hA'.lt
  have nm : ∀ k, own k ≠ 1 → k ∉ FA := fun k hk hm => hk (hL.a k hm).1
  refine ⟨⟨F', FB, fun k => if k < wr.heap.size then own k else 1, ⟨fun k hk => ?_, fun k hk => ?_, fun k hk => ?_, fun k hk => ?_, fun k hk => ?_⟩, hA', hB.chg hCh (fun k hk => nm k (by have := (hL.b k hk).1; omega))⟩, ?_, ?_, ⟨xs, ?_, hI⟩, hC.step hCh (fun k hk => .inr (hL.a k hk).2.1)⟩
  · have h3 := hlt k hk
    have h4 := hC.size
    rcases hF k hk with h | h
    · have := hL.a k h; simp [this.2.2]; exact ⟨this.1, this.2.1, h3⟩
    · simp [show ¬ k < wr.heap.size by omega]; omega
  · have := hL.b k hk; simp [this.2.2]; exact ⟨this.1, this.2.1, by omega⟩
  · have := hL.m k hk; simp [this.2.2]; exact ⟨this.1, this.2.1, by omega⟩
  · have := hL.t k hk; simp [this.2.2]; exact ⟨this.1, this.2.1, by omega⟩
  · have := hL.g k hk; simp [this.2.2]; exact ⟨this.1, this.2.1, by omega⟩
  · exact hM.chg hCh (nm mb (by have := (hL.m mb (by simp)).1; omega)) (nm mm (by have := (hL.m mm (by simp)).1; omega))
  · exact hT.chg hCh (nm tb (by have := (hL.t tb (by simp)).1; omega)) (nm tm_ (by have := (hL.t tm_ (by simp)).1; omega))
  · exact hW.chg hCh (fun k hk => nm k (by have := (hL.g k hk).1; omega))

/-- the clock b has gone on -/
theorem Mem.stepB (h : Mem w ca cb mb mm tb tm_ n s term ga cap wr) (x : Int) (hs : s.sB.ok) (x0 : -9223372036854775808 ≤ x) (x1 : x ≤ 9223372036854775807) :
    Calls Try.prog 21 #[.pointer (some ⟨cb, 0, none⟩), .int .i64 x] wr fun e w' => e = .returned (.int .i64 (s.sB.step x).now) ∧ Mem w ca cb mb mm tb tm_ n { s with sB := s.sB.step x } term ga cap w' := by
  obtain ⟨⟨FA, FB, own, hL, hA, hB⟩, hM, hT, ⟨xs, hW, hI⟩, hC⟩ := h
  refine (clockStep hB hs x x0 x1).mono fun e w' ⟨he, F', hB', hCh, hF⟩ => ⟨he, ?_⟩
  have hsz := hCh.size
  have hlt := hB'.lt
  have nm : ∀ k, own k ≠ 2 → k ∉ FB := fun k hk hm => hk (hL.b k hm).1
  refine ⟨⟨FA, F', fun k => if k < wr.heap.size then own k else 2, ⟨fun k hk => ?_, fun k hk => ?_, fun k hk => ?_, fun k hk => ?_, fun k hk => ?_⟩, hA.chg hCh (fun k hk => nm k (by have := (hL.a k hk).1; omega)), hB'⟩, ?_, ?_, ⟨xs, ?_, hI⟩, hC.step hCh (fun k hk => .inr (hL.b k hk).2.1)⟩
  · have := hL.a k hk; simp [this.2.2]; exact ⟨this.1, this.2.1, by omega⟩
  · have h3 := hlt k hk
    have h4 := hC.size
    rcases hF k hk with h | h
    · have := hL.b k h; simp [this.2.2]; exact ⟨this.1, this.2.1, h3⟩
    · simp [show ¬ k < wr.heap.size by omega]; omega
  · have := hL.m k hk; simp [this.2.2]; exact ⟨this.1, this.2.1, by omega⟩
  · have := hL.t k hk; simp [this.2.2]; exact ⟨this.1, this.2.1, by omega⟩
  · have := hL.g k hk; simp [this.2.2]; exact ⟨this.1, this.2.1, by omega⟩
  · exact hM.chg hCh (nm mb (by have := (hL.m mb (by simp)).1; omega)) (nm mm (by have := (hL.m mm (by simp)).1; omega))
  · exact hT.chg hCh (nm tb (by have := (hL.t tb (by simp)).1; omega)) (nm tm_ (by have := (hL.t tm_ (by simp)).1; omega))
  · exact hW.chg hCh (fun k hk => nm k (by have := (hL.g k hk).1; omega))

theorem Lies.grow (h : Lies w wr ca cb mb mm tb tm_ FA FB ga own) (hs : wr.heap.size ≤ wn.heap.size) : Lies w wn ca cb mb mm tb tm_ FA FB ga own :=
  ⟨fun k hk => ⟨(h.a k hk).1, (h.a k hk).2.1, by have := (h.a k hk).2.2; omega⟩, fun k hk => ⟨(h.b k hk).1, (h.b k hk).2.1, by have := (h.b k hk).2.2; omega⟩,
   fun k hk => ⟨(h.m k hk).1, (h.m k hk).2.1, by have := (h.m k hk).2.2; omega⟩, fun k hk => ⟨(h.t k hk).1, (h.t k hk).2.1, by have := (h.t k hk).2.2; omega⟩,
   fun k hk => ⟨(h.g k hk).1, (h.g k hk).2.1, by have := (h.g k hk).2.2; omega⟩⟩

/-- the lease of one's own has turned -/
theorem Mem.mineTo (h : Mem w ca cb mb mm tb tm_ n s term ga cap wr) {m' : MS} {S : List Nat} (hm : MineAt wn mb mm m') (hCh : Chg S wr wn) (hS : ∀ k ∈ S, k = mb ∨ k = mm) : Mem w ca cb mb mm tb tm_ n { s with m := m' } term ga cap wn := by
  obtain ⟨⟨FA, FB, own, hL, hA, hB⟩, hM, hT, ⟨xs, hW, hI⟩, hC⟩ := h
  have hk3 : ∀ k ∈ S, own k = 3 ∧ w.heap.size ≤ k := fun k hk => by
    rcases hS k hk with rfl | rfl
    · have := hL.m k (by simp); exact ⟨this.1, this.2.1⟩
    · have := hL.m k (by simp); exact ⟨this.1, this.2.1⟩
  have nm : ∀ k, own k ≠ 3 → k ∉ S := fun k hk hmem => hk (hk3 k hmem).1
  exact ⟨⟨FA, FB, own, hL.grow hCh.size, hA.chg hCh (fun k hk => nm k (by have := (hL.a k hk).1; omega)), hB.chg hCh (fun k hk => nm k (by have := (hL.b k hk).1; omega))⟩, hm,
    hT.chg hCh (nm tb (by have := (hL.t tb (by simp)).1; omega)) (nm tm_ (by have := (hL.t tm_ (by simp)).1; omega)), ⟨xs, hW.chg hCh (fun k hk => nm k (by have := (hL.g k hk).1; omega)), hI⟩, hC.step hCh (fun k hk => .inr (hk3 k hk).2)⟩

/-- the table has turned -/
theorem Mem.tableTo (h : Mem w ca cb mb mm tb tm_ n s term ga cap wr) {f' : Int → Option Int} {S : List Nat} (ht : TableAt wn tb tm_ (2 * term) n' f') (hCh : Chg S wr wn) (hS : ∀ k ∈ S, k = tb ∨ k = tm_) : Mem w ca cb mb mm tb tm_ n' { s with f := f' } term ga cap wn := by
  obtain ⟨⟨FA, FB, own, hL, hA, hB⟩, hM, hT, ⟨xs, hW, hI⟩, hC⟩ := h
  have hk3 : ∀ k ∈ S, own k = 4 ∧ w.heap.size ≤ k := fun k hk => by
    rcases hS k hk with rfl | rfl
    · have := hL.t k (by simp); exact ⟨this.1, this.2.1⟩
    · have := hL.t k (by simp); exact ⟨this.1, this.2.1⟩
  have nm : ∀ k, own k ≠ 4 → k ∉ S := fun k hk hmem => hk (hk3 k hmem).1
  exact ⟨⟨FA, FB, own, hL.grow hCh.size, hA.chg hCh (fun k hk => nm k (by have := (hL.a k hk).1; omega)), hB.chg hCh (fun k hk => nm k (by have := (hL.b k hk).1; omega))⟩,
    hM.chg hCh (nm mb (by have := (hL.m mb (by simp)).1; omega)) (nm mm (by have := (hL.m mm (by simp)).1; omega)), ht, ⟨xs, hW.chg hCh (fun k hk => nm k (by have := (hL.g k hk).1; omega)), hI⟩, hC.step hCh (fun k hk => .inr (hk3 k hk).2)⟩

/-- new blocks alone -/
theorem Mem.below (h : Mem w ca cb mb mm tb tm_ n s term ga cap wr) (hb : Below wr.heap.size wr wn) : Mem w ca cb mb mm tb tm_ n s term ga cap wn := by
  have hCh := (Chg.refl [] wr).ofBelow hb
  have := h.mineTo (h.mine.chg hCh (by simp) (by simp)) hCh (by simp)
  exact this

/-- the words' slice has turned: its row alone, or it lies in a new one -/
theorem Mem.wayTo (h : Mem w ca cb mb mm tb tm_ n s term ga cap wr) {ats' : List Int} {ga' : Option Addr} {cap' : Nat} {xs' : List Value} {S : List Nat} (hw : OwnW wn ga' cap' ats'.length xs') (hi : WayI xs' ats') (hCh : Chg S wr wn)
    (hS : ∀ k ∈ S, blkOf ga = some k) (hg : ∀ k, blkOf ga' = some k → blkOf ga = some k ∨ wr.heap.size ≤ k) : Mem w ca cb mb mm tb tm_ n { s with ats := ats' } term ga' cap' wn := by
  obtain ⟨⟨FA, FB, own, hL, hA, hB⟩, hM, hT, _, hC⟩ := h
  have hsz := hCh.size
  have hk5 : ∀ k ∈ S, own k = 5 ∧ w.heap.size ≤ k := fun k hk => by have := hL.g k (hS k hk); exact ⟨this.1, this.2.1⟩
  have nm : ∀ k, own k ≠ 5 → k ∉ S := fun k hk hmem => hk (hk5 k hmem).1
  refine ⟨⟨FA, FB, fun k => if k < wr.heap.size then own k else 5, ⟨fun k hk => ?_, fun k hk => ?_, fun k hk => ?_, fun k hk => ?_, fun k hk => ?_⟩, hA.chg hCh (fun k hk => nm k (by have := (hL.a k hk).1; omega)), hB.chg hCh (fun k hk => nm k (by have := (hL.b k hk).1; omega))⟩,
    hM.chg hCh (nm mb (by have := (hL.m mb (by simp)).1; omega)) (nm mm (by have := (hL.m mm (by simp)).1; omega)), hT.chg hCh (nm tb (by have := (hL.t tb (by simp)).1; omega)) (nm tm_ (by have := (hL.t tm_ (by simp)).1; omega)), ⟨xs', hw, hi⟩, hC.step hCh (fun k hk => .inr (hk5 k hk).2)⟩
  · have := hL.a k hk; simp [this.2.2]; exact ⟨this.1, this.2.1, by omega⟩
  · have := hL.b k hk; simp [this.2.2]; exact ⟨this.1, this.2.1, by omega⟩
  · have := hL.m k hk; simp [this.2.2]; exact ⟨this.1, this.2.1, by omega⟩
  · have := hL.t k hk; simp [this.2.2]; exact ⟨this.1, this.2.1, by omega⟩
  · have h3 := hw.lt hk
    have h4 := hC.size
    rcases hg k hk with h | h
    · have := hL.g k h; simp [this.2.2]; exact ⟨this.1, this.2.1, h3⟩
    · simp [show ¬ k < wr.heap.size by omega]; omega
end

end Go.Proofs.Ytbekjfbaelobdaa
