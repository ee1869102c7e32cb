/- Arguments that are slices of events, and of numbers, opened. No condition. -/
import Derived.Test.YteokjobkjmibfaaGreatHb
import Derived.Deep.Slices
import Derived.ProofKit
import Derived.OpenShut
namespace Go.Proofs.YteokjobkjmibfaaGreat
open Go.RowKit Go.Maps

theorem cellsOf69 : Tryz.prog.cellsOf 69 = 3 := by kernel_rfl
theorem cellsOf66 : Tryz.prog.cellsOf 66 = 6 := by kernel_rfl
theorem cellsOf3 : Tryz.prog.cellsOf 3 = 1 := by kernel_rfl
theorem cellsOf64 : Tryz.prog.cellsOf 64 = 1 := by kernel_rfl
theorem cellsOf9 : Tryz.prog.cellsOf 9 = 1 := by kernel_rfl
theorem cellsOf53 : Tryz.prog.cellsOf 53 = 1 := by kernel_rfl

theorem add_flat (b o r : Nat) : (⟨b, o, none⟩ : Addr).add r = ⟨b, o + r, none⟩ := by
  unfold Addr.add
  split
  · rename_i h; subst h; rfl
  · rfl

section
variable {H : Type} {enc : TypeId × Value → H} {w : World} {held : Bool} {base fuel : Nat} {a : Option Addr} {len cap : Nat} {x : DataW H × List MemPlace}

set_option maxRecDepth 1000000 in
theorem images_open (h : DataW.trod enc Tryz.prog w base (fun _ => true) held fuel 53 [.slice a len cap] = some x) : ∃ L : List Img, L.length = len ∧ ImgsW w a L := by
  rcases Go.Deep.open_slice Tryz.underlying53 h with ⟨hcs, _⟩ | ⟨p, l, c, m, n, D, Pl, hcs, _, hl, hm, hmm, _, hx⟩
  · obtain ⟨rfl, rfl, rfl⟩ : a = none ∧ len = 0 ∧ cap = 0 := by simpa using hcs
    exact ⟨[], rfl, by simp, by simp, .inl rfl⟩
  · obtain ⟨rfl, rfl, rfl⟩ : a = some p ∧ len = l ∧ cap = c := by simpa using hcs
    have hlm : len ≤ m := by rw [hmm]; split <;> omega
    have each : ∀ i, i < len → ∃ im : Img, (wf64 im.block ∧ wfu64 im.ver ∧ im.data.size ≤ maxLen) ∧ w.cell? (p.add (i * 3)) = some (.int .i64 im.block) ∧ w.cell? (p.add (i * 3 + 1)) = some (.int .u64 im.ver) ∧ w.cell? (p.add (i * 3 + 2)) = some (.string im.data) := by
      intro i hi
      obtain ⟨cs', h1, h2⟩ := hx i (by omega)
      rw [cellsOf69] at h1
      obtain ⟨_, hlen, hcell⟩ := World.cells?_some h1
      obtain ⟨xs, k, hk, hxy, _, hxl, hf⟩ := DataW.trod_struct Tryz.underlying69 h2
      match xs, hxl, cs', hlen with
      | [y0, y1, y2], _, [v0, v1, v2], _ =>
        have g0 := hf 0 _ rfl
        have g1 := hf 1 _ rfl
        have g2 := hf 2 _ rfl
        simp [cellsOf3, cellsOf64, cellsOf9] at g0 g1 g2
        obtain ⟨n0, q0, _, r0⟩ := DataW.trod_int Tryz.underlying3 g0
        obtain ⟨n1, q1, _, r1⟩ := DataW.trod_int Tryz.underlying64 g1
        obtain ⟨s2, q2, _, r2⟩ := DataW.trod_string Tryz.underlying9 g2
        have e0 := hcell 0 (by omega)
        have e1 := hcell 1 (by omega)
        have e2 := hcell 2 (by omega)
        rw [Go.Deep.add_add] at e0 e1 e2
        simp only [List.cons.injEq, and_true] at q0 q1 q2
        subst q0
        subst q1
        subst q2
        exact ⟨⟨n0, n1, s2⟩, ⟨r0, r1, r2⟩, by simpa using e0, by simpa using e1, by simpa using e2⟩
    obtain ⟨f, hf⟩ := Go.Deep.choose_lt each
    refine ⟨(List.range len).map f, by simp, fun i hi => ?_, by simp; omega, ?_⟩
    · obtain ⟨r, hr, rfl⟩ := List.mem_map.1 hi
      exact (hf r (List.mem_range.1 hr)).1
    · by_cases h0 : len = 0
      · left; subst h0; rfl
      · right
        obtain ⟨b, o, spot⟩ := p
        have hspot : spot = none := by
          have h1 := (hf 0 (by omega)).2.1
          simp only [Addr.add] at h1
          exact World.cell?_spot h1
        subst hspot
        refine ⟨b, o, rfl, fun k hk => ?_⟩
        have hkl : k < len := by simpa using hk
        obtain ⟨_, c0, c1, c2⟩ := hf k hkl
        rw [add_flat] at c0 c1 c2
        have hX : ((List.range len).map f).getD k default = f k := by
          rw [List.getD_eq_getElem?_getD]; simp [hkl]
        rw [hX]
        exact ⟨c0, by rw [Nat.add_assoc]; exact c1, by rw [Nat.add_assoc]; exact c2⟩

set_option maxRecDepth 1000000 in
theorem events_open (h : DataW.trod enc Tryz.prog w base (fun _ => true) held fuel 22 [.slice a len cap] = some x) : ∃ L : List Ev, L.length = len ∧ len ≤ cap ∧ EvRowW w a L := by
  rcases Go.Deep.open_slice Tryz.underlying22 h with ⟨hcs, _⟩ | ⟨p, l, c, m, n, D, Pl, hcs, _, hl, hm, hmm, _, hx⟩
  · obtain ⟨rfl, rfl, rfl⟩ : a = none ∧ len = 0 ∧ cap = 0 := by simpa using hcs
    exact ⟨[], rfl, by omega, by simp, by simp, .inl rfl, by simp⟩
  · obtain ⟨rfl, rfl, rfl⟩ : a = some p ∧ len = l ∧ cap = c := by simpa using hcs
    have hlm : len ≤ m := by rw [hmm]; split <;> omega
    have each : ∀ i, i < len → ∃ e : Ev, (e.ok ∧ ImgsW w e.ra e.rs ∧ ImgsW w e.wa e.ws) ∧ w.cell? (p.add (i * 6)) = some (.int .i64 e.kind) ∧ w.cell? (p.add (i * 6 + 1)) = some (.int .i64 e.node) ∧ w.cell? (p.add (i * 6 + 2)) = some (.int .u64 e.epoch) ∧ w.cell? (p.add (i * 6 + 3)) = some (.int .u64 e.lsn) ∧
        w.cell? (p.add (i * 6 + 4)) = some (.slice e.ra e.rs.length e.rc) ∧ w.cell? (p.add (i * 6 + 5)) = some (.slice e.wa e.ws.length e.wc) := by
      intro i hi
      obtain ⟨cs', h1, h2⟩ := hx i (by omega)
      rw [cellsOf66] at h1
      obtain ⟨_, hlen, hcell⟩ := World.cells?_some h1
      obtain ⟨xs, k, hk, hxy, _, hxl, hf⟩ := DataW.trod_struct Tryz.underlying66 h2
      match xs, hxl, cs', hlen with
      | [y0, y1, y2, y3, y4, y5], _, [v0, v1, v2, v3, v4, v5], _ =>
        have g0 := hf 0 _ rfl
        have g1 := hf 1 _ rfl
        have g2 := hf 2 _ rfl
        have g3 := hf 3 _ rfl
        have g4 := hf 4 _ rfl
        have g5 := hf 5 _ rfl
        simp [cellsOf3, cellsOf64, cellsOf53] at g0 g1 g2 g3 g4 g5
        obtain ⟨n0, q0, _, r0⟩ := DataW.trod_int Tryz.underlying3 g0
        obtain ⟨n1, q1, _, r1⟩ := DataW.trod_int Tryz.underlying3 g1
        obtain ⟨n2, q2, _, r2⟩ := DataW.trod_int Tryz.underlying64 g2
        obtain ⟨n3, q3, _, r3⟩ := DataW.trod_int Tryz.underlying64 g3
        have sl : ∀ (v : Value) (y : DataW H × List MemPlace), DataW.trod enc Tryz.prog w base (fun _ => true) held k 53 [v] = some y → ∃ (ra : Option Addr) (rs : List Img) (rc : Nat), v = .slice ra rs.length rc ∧ ImgsW w ra rs := fun v y hv => by
          obtain ⟨ra, rl, rc, rfl⟩ : ∃ (ra : Option Addr) (rl rc : Nat), v = .slice ra rl rc := by
            rcases DataW.trod_slice Tryz.underlying53 hv with ⟨h0, _⟩ | ⟨p', l', c', _, _, _, _, h0, _⟩
            · exact ⟨none, 0, 0, by simpa using h0⟩
            · exact ⟨some p', l', c', by simpa using h0⟩
          obtain ⟨rs, hr, hI⟩ := images_open hv
          subst hr
          exact ⟨ra, rs, rc, rfl, hI⟩
        obtain ⟨ra, rs, rc, q4, r4⟩ := sl v4 y4 g4
        obtain ⟨wa, ws, wc, q5, r5⟩ := sl v5 y5 g5
        have e0 := hcell 0 (by omega)
        have e1 := hcell 1 (by omega)
        have e2 := hcell 2 (by omega)
        have e3 := hcell 3 (by omega)
        have e4 := hcell 4 (by omega)
        have e5 := hcell 5 (by omega)
        rw [Go.Deep.add_add] at e0 e1 e2 e3 e4 e5
        simp only [List.cons.injEq, and_true] at q0 q1 q2 q3
        subst q0
        subst q1
        subst q2
        subst q3
        subst q4
        subst q5
        exact ⟨⟨n0, n1, n2, n3, rs, ws, ra, rc, wa, wc⟩, ⟨⟨r0, r1, r2, r3⟩, r4, r5⟩, by simpa using e0, by simpa using e1, by simpa using e2, by simpa using e3, by simpa using e4, by simpa using e5⟩
    obtain ⟨f, hf⟩ := Go.Deep.choose_lt each
    refine ⟨(List.range len).map f, by simp, hl, fun e he => ?_, by simp; omega, ?_, fun e he => ?_⟩
    · obtain ⟨r, hr, rfl⟩ := List.mem_map.1 he
      exact (hf r (List.mem_range.1 hr)).1.1
    · by_cases h0 : len = 0
      · left; subst h0; rfl
      · right
        obtain ⟨b, o, spot⟩ := p
        have hspot : spot = none := by
          have h1 := (hf 0 (by omega)).2.1
          simp only [Addr.add] at h1
          exact World.cell?_spot h1
        subst hspot
        refine ⟨b, o, rfl, fun k hk => ?_⟩
        have hkl : k < len := by simpa using hk
        obtain ⟨_, c0, c1, c2, c3, c4, c5⟩ := hf k hkl
        rw [add_flat] at c0 c1 c2 c3 c4 c5
        have hX : ((List.range len).map f).getD k default = f k := by
          rw [List.getD_eq_getElem?_getD]; simp [hkl]
        rw [hX]
        exact ⟨c0, by rw [Nat.add_assoc]; exact c1, by rw [Nat.add_assoc]; exact c2, by rw [Nat.add_assoc]; exact c3, by rw [Nat.add_assoc]; exact c4, by rw [Nat.add_assoc]; exact c5⟩
    · obtain ⟨r, hr, rfl⟩ := List.mem_map.1 he
      exact (hf r (List.mem_range.1 hr)).1.2

set_option maxRecDepth 1000000 in
theorem nums_open (h : DataW.trod enc Tryz.prog w base (fun _ => true) held fuel 23 [.slice a len cap] = some x) : ∃ C : List Int, C.length = len ∧ Src kN w (.slice a len cap) C := by
  rcases Go.Deep.open_slice Tryz.underlying23 h with ⟨hcs, _⟩ | ⟨p, l, c, m, n, D, Pl, hcs, _, hl, hm, hmm, _, hx⟩
  · obtain ⟨rfl, rfl, rfl⟩ : a = none ∧ len = 0 ∧ cap = 0 := by simpa using hcs
    exact ⟨[], rfl, by simp, .inl ⟨rfl, rfl⟩⟩
  · obtain ⟨rfl, rfl, rfl⟩ : a = some p ∧ len = l ∧ cap = c := by simpa using hcs
    have hlm : len ≤ m := by rw [hmm]; split <;> omega
    have each : ∀ i, i < len → ∃ z : Int, wfu64 z ∧ w.cell? (p.add i) = some (.int .u64 z) := by
      intro i hi
      obtain ⟨cs', h1, h2⟩ := hx i (by omega)
      rw [cellsOf64] at h1
      obtain ⟨_, hlen, hcell⟩ := World.cells?_some h1
      obtain ⟨n0, q0, _, r0⟩ := DataW.trod_int Tryz.underlying64 h2
      have e0 := hcell 0 (by omega)
      rw [Go.Deep.add_add] at e0
      subst q0
      exact ⟨n0, r0, by simpa using e0⟩
    obtain ⟨f, hf⟩ := Go.Deep.choose_lt each
    refine ⟨(List.range len).map f, by simp, fun z hz => ?_, ?_⟩
    · obtain ⟨r, hr, rfl⟩ := List.mem_map.1 hz
      exact (hf r (List.mem_range.1 hr)).1
    · refine .inr ⟨p, cap, by simp, ?_, fun k hk r hr => ?_⟩
      · by_cases h0 : len = 0
        · left; subst h0; rfl
        · right
          obtain ⟨b, o, spot⟩ := p
          have h1 := (hf 0 (by omega)).2
          simp only [Addr.add] at h1
          exact World.cell?_spot h1
      · have hkl : k < len := by simpa using hk
        obtain rfl : r = 0 := by simpa using hr
        obtain ⟨b, o, spot⟩ := p
        have hspot : spot = none := by
          have h1 := (hf 0 (by omega)).2
          simp only [Addr.add] at h1
          exact World.cell?_spot h1
        subst hspot
        have h1 := (hf k hkl).2
        rw [add_flat] at h1
        show w.cell? ⟨b, o + (k * 1 + 0), none⟩ = some (.int .u64 (((List.range len).map f).getD k default))
        rw [Nat.mul_one, Nat.add_zero, h1, List.getD_eq_getElem?_getD]
        simp [hkl]
end

end Go.Proofs.YteokjobkjmibfaaGreat
