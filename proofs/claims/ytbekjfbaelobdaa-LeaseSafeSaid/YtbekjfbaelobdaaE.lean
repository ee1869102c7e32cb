/- The method Late of a table of leases hands back, rising, those whose time is over. Condition: at most a million entries. -/
import Derived.Test.YtbekjfbaelobdaaD
namespace Go.Proofs.Ytbekjfbaelobdaa
open Go.RowKit Go.Maps Go.Sort Go.Shelf Go.Lib

/-- a whole number of 64 bits -/
abbrev I64 := {x : Int // wf64 x}
instance : Inhabited I64 := ⟨⟨0, by unfold wf64; decide⟩⟩
abbrev encS (x : I64) : Value := .int .i64 x.1

theorem IMap.look {W : World} {b n : Nat} {f : Int → Option Int} (h : IMap W b n f) (k : Int) (hk : wf64 k) :
    (Instr.lookup 46 (.map (some b)) (.int .i64 k) false).run Try.prog W = .ok (.int .i64 ((f k).getD 0)) W := by
  obtain ⟨D, hD, hf⟩ := h
  obtain ⟨c, hrun, hat, _⟩ := hD.lookup_int law3 Try.underlying46 Try.underlying3 (zero3 _) (keyOf_int_mk Try.underlying3 hk)
  rw [hrun]
  have h1 := hf k
  cases hfk : f k with
  | none =>
    rw [hfk] at h1
    have : Maps.has D (.int .i64 k) = false := h1.1
    rw [Maps.atKey_of_not_has this] at hat
    cases hat
    rfl
  | some v =>
    rw [hfk] at h1
    rw [h1.2 v rfl] at hat
    cases hat
    rfl

/-- the closure of Late -/
theorem late1_gives {b bm n : Nat} {T : Int} {f : Int → Option Int} (B : Nat) (now : Int) (W : World) (h : TableAt W b bm T n f) (hc : W.cell? ⟨B, 0, none⟩ = some (.pointer (some ⟨b, 0, none⟩))) (hd : W.cell? ⟨B + 1, 0, none⟩ = some (.int .i64 now)) (x : I64) :
    FnGives Try.prog 30 #[.pointer (some ⟨B, 0, none⟩), .pointer (some ⟨B + 1, 0, none⟩)] #[encS x] (.bool (decide (now < (f x.1).getD 0))) W := by
  show Calls Try.prog 30 #[.int .i64 x.1, .pointer (some ⟨B, 0, none⟩), .pointer (some ⟨B + 1, 0, none⟩)] W _
  have c1 := h.1.cell 1 (by rfl)
  have hl := fun m => (h.2.1.drewN m).look x.1 x.2
  generalize (f x.1).getD 0 = y at hl ⊢
  obtain ⟨x, hx⟩ := x
  simp only at hl ⊢
  go_enter Try.func30, Try.ntmps30
  go_wp2_with fail
  go_quiet (fail)
  go_wp2_with fail
  go_ret
  exact ⟨by simp, _, rfl⟩

theorem deleteFunc_nil (fv : Value) (w : World) : Calls Try.prog 29 #[.slice none 0 0, fv] w fun e w' => e = .returned (.slice none 0 0) ∧ w = w' := by
  go_enter Try.func29, Try.ntmps29
  go_wp2_with (go_at_call 39; refine (Try.slices_IndexFunc_empty (α := Int) none 0 fv _).mono ?_; rintro e w' ⟨rfl, rfl⟩)
  go_ret
  exact ⟨rfl, rfl⟩


def LatePost (f : Int → Option Int) (now : Int) (w : World) (e : Ending) (w' : World) : Prop :=
  ∃ (a : Option Addr) (l : List Int) (cap : Nat), e = .returned (.slice a l.length cap) ∧ l.Pairwise (· ≤ ·) ∧ l.Nodup ∧ (∀ x, x ∈ l ↔ ∃ c, f x = some c ∧ c ≤ now) ∧ (∀ x ∈ l, wf64 x) ∧ l.length ≤ cap ∧ cap ≤ maxLen ∧
    (l ≠ [] → ∃ g, a = some ⟨g, 0, none⟩ ∧ ∀ i, i < l.length → w'.cell? ⟨g, i, none⟩ = some (.int .i64 (l.getD i 0))) ∧ Below w.heap.size w w'

theorem lift64 : ∀ (l : List Int), (∀ x ∈ l, wf64 x) → ∃ ls : List I64, ls.map (·.1) = l
  | [], _ => ⟨[], rfl⟩
  | a :: r, h => by
    obtain ⟨ls, hl⟩ := lift64 r (fun x hx => h x (List.mem_cons_of_mem _ hx))
    exact ⟨⟨a, h a (by simp)⟩ :: ls, by simp [hl]⟩

theorem putRow_below {α : Type} [Inhabited α] (enc : α → Value) (w : World) (q blk off : Nat) (d : Array α) {B : Nat} (hB : B ≤ blk) : Below B w (putRow enc (Sort.ahead w q) blk off d) := by
  refine ⟨rfl, rfl, rfl, ?_, fun k hk => ?_⟩
  · rw [size_putRow]; exact Nat.le_refl _
  · show (w.heap.modify blk _)[k]? = _
    rw [Array.getElem?_modify, if_neg (by omega)]

/-- what Nodes hands back, in two ways -/
theorem nodes_ways {f : Int → Option Int} {w : World} {e : Ending} {w' : World} (h : NodesPost f w e w') :
    (e = .returned (.slice none 0 0) ∧ (∀ x, f x = none) ∧ Below w.heap.size w w') ∨
    ∃ (g cap : Nat) (ls : List I64), e = .returned (.slice (some ⟨g, 0, none⟩) ls.length cap) ∧ w.heap.size ≤ g ∧ g < w'.heap.size ∧ ls.length ≤ cap ∧ cap ≤ maxLen ∧ Holds encS w' g 0 ls.toArray ∧
      (ls.map (·.1)).Pairwise (· ≤ ·) ∧ (ls.map (·.1)).Nodup ∧ (∀ x, x ∈ ls.map (·.1) ↔ (f x).isSome = true) ∧ Below w.heap.size w w' := by
  obtain ⟨v, l, rfl, hrow, hnil, hsort, hnd, hmem, hwf, hbel⟩ := h
  rcases hrow.2 with ⟨rfl, hl0⟩ | ⟨g, cap, cur, rfl, hg, hcur, hle, hcap, hsz, htake⟩
  · left
    have hl : l = [] := List.eq_nil_of_length_eq_zero hl0
    subst hl
    exact ⟨rfl, fun x => by have := hmem x; cases hfx : f x <;> simp [hfx] at this ⊢, hbel⟩
  · right
    obtain ⟨ls, rfl⟩ := lift64 l hwf
    refine ⟨g, cap, ls, by simp, hg, lt_of_block hcur, by simpa using hle, hcap, ?_, hsort, hnd, hmem, hbel⟩
    intro j hj
    have hj' : j < ls.length := by simpa using hj
    refine ⟨?_, by simp [World.frozen?, hcur]⟩
    have h1 : (cur.toList.take ((ls.map (·.1)).length * 1))[j]? = ((ls.map (·.1)).map encZ)[j]? := by rw [htake]
    rw [List.getElem?_take_of_lt (by simpa using hj'), List.getElem?_map, List.getElem?_map, List.getElem?_eq_getElem hj'] at h1
    simp only [World.cell?, hcur, Nat.zero_add]
    rw [show ls.toArray[j]! = ls[j] from by rw [getElem!_pos ls.toArray j (by simpa using hj')]; simp]
    simpa using h1

theorem filter_map_val (p : Int → Bool) : ∀ ls : List I64, (ls.filter fun x => p x.1).map (·.1) = (ls.map (·.1)).filter p
  | [] => rfl
  | a :: r => by
    have := filter_map_val p r
    by_cases h : p a.1 = true <;> simp [h, this]

theorem Chg.cell {S : List Nat} {a w : World} (h : Chg S a w) {p : Addr} (hp : p.block < a.heap.size) (hn : p.block ∉ S) : w.cell? p = a.cell? p :=
  World.cell?_of_block (w := a) (h.block p.block hp hn)

theorem chg_sortWorld {α : Type} [Inhabited α] (enc : α → Value) (w : World) (g o m : Nat) (dk : Array α) (os : Array Obj) : Chg [g] w (sortWorld enc w g o m dk os) := by
  refine ⟨rfl, rfl, rfl, ?_, fun k hk hn => ?_⟩
  · show w.heap.size ≤ ((putRow enc (Sort.ahead w m) g o dk).heap ++ os).size
    rw [Array.size_append, size_putRow]; exact Nat.le_add_right _ _
  · unfold sortWorld
    rw [Sort.heap_grow_old _ _ (by rw [size_putRow]; exact hk)]
    show (w.heap.modify g _)[k]? = _
    rw [Array.getElem?_modify, if_neg (by simpa using fun e => hn (by simp [e]))]

set_option maxHeartbeats 400000 in
theorem late_any {w : World} {b bm n : Nat} {T : Int} {f : Int → Option Int} (now : Int) (h : TableAt w b bm T n f) (hn : n ≤ 1000000) :
    Calls Try.prog 16 #[.pointer (some ⟨b, 0, none⟩), .int .i64 now] w (LatePost f now w) := by
  have hmf : ∀ (fn : Fn) (first cap : Array Value) (w : World), (Instr.makeFunc fn first cap).run Try.prog w = .ok (.func fn first cap) w := fun _ _ _ _ => rfl
  have hb1 := h.1.lt
  have hb2 := h.2.1.lt
  have hT2 : TableAt ((w.alloc (.cells #[.pointer (some ⟨b, 0, none⟩)] 32)).alloc (.cells #[.int .i64 now] 3)) b bm T n f := h.chg (((Chg.refl [] w).alloc _).alloc _) (by simp) (by simp)
  go_enter Try.func16, Try.ntmps16
  go_wp2_with fail
  refine (nodes_any hT2 hn).mono ?_
  intro e w1 hp
  rcases nodes_ways hp with ⟨rfl, hf, hbel⟩ | ⟨g, cap, ls, rfl, hg, hgl, hlc, hcm, hH, hsort, hnd, hmem, hbel⟩
  · go_wp2_with (go_at_call 29; refine (deleteFunc_nil _ _).mono ?_; rintro e w' ⟨rfl, rfl⟩)
    go_ret
    refine ⟨none, [], 0, rfl, List.Pairwise.nil, List.nodup_nil, fun x => by simp [hf], by simp, by simp, by unfold maxLen; omega, fun h => absurd rfl h, ?_⟩
    exact (((Below.refl _ _).alloc (Nat.le_refl _) _).alloc (by simp) _).trans (hbel.mono (by simp; omega))
  · have hTb := hT2.chg ((Chg.refl [] _).ofBelow hbel) (by simp) (by simp)
    have k0 : w1.cell? ⟨w.heap.size, 0, none⟩ = some (.pointer (some ⟨b, 0, none⟩)) := by
      rw [hbel.cell (p := ⟨w.heap.size, 0, none⟩) (by simp; omega)]; simp
    have k1 : w1.cell? ⟨w.heap.size + 1, 0, none⟩ = some (.int .i64 now) := by
      rw [hbel.cell (p := ⟨w.heap.size + 1, 0, none⟩) (by simp)]; simp
    have hsize := hbel.size
    simp at hsize
    simp at hg
    have hp1 : PredAt Try.prog 30 #[.pointer (some ⟨w.heap.size, 0, none⟩), .pointer (some ⟨w.heap.size + 1, 0, none⟩)] encS (fun x => decide (now < (f x.1).getD 0)) w1 := fun W x hb =>
      late1_gives w.heap.size now W (hTb.chg ((Chg.refl [] _).ofBelow hb) (by simp) (by simp)) ((hb.cell (p := ⟨w.heap.size, 0, none⟩) (by show w.heap.size < _; omega)).trans k0) ((hb.cell (p := ⟨w.heap.size + 1, 0, none⟩) (by show w.heap.size + 1 < _; omega)).trans k1) x
    have hp2 : PredOver Try.prog 30 #[.pointer (some ⟨w.heap.size, 0, none⟩), .pointer (some ⟨w.heap.size + 1, 0, none⟩)] encS (fun x => decide (now < (f x.1).getD 0)) g 0 ls.toArray.size w1 := by
      intro m os dk x _
      have hc := chg_sortWorld encS w1 g 0 m dk os
      exact late1_gives w.heap.size now _ (hTb.chg hc (by simp; omega) (by simp; omega)) ((hc.cell (p := ⟨w.heap.size, 0, none⟩) (by show w.heap.size < _; omega) (by simp; omega)).trans k0) ((hc.cell (p := ⟨w.heap.size + 1, 0, none⟩) (by show w.heap.size + 1 < _; omega) (by simp; omega)).trans k1) x
    have hcon := Try.slices_DeleteFunc encS (fun _ => rfl) (fun x => decide (now < (f x.1).getD 0)) 30 #[.pointer (some ⟨w.heap.size, 0, none⟩), .pointer (some ⟨w.heap.size + 1, 0, none⟩)]
      (enters_of Try.func30 (by kernel_rfl) rfl) default (fun w => zero3 w) g 0 cap ls.toArray w1 hp1 hp2 hH (by simp; unfold maxLen at hcm; omega) (by simpa using hlc)
    simp only [List.size_toArray] at hcon
    go_wp2_with (go_at_call 29; refine hcon.mono ?_; rintro e w' ⟨rfl, q, rfl⟩)
    go_ret
    have hfl := filter_map_val (fun x => !decide (now < (f x).getD 0)) ls
    have hlen : (ls.filter fun x => !decide (now < (f x.1).getD 0)).length ≤ ls.length := List.length_filter_le _ _
    have hmem2 : ∀ x, x ∈ (ls.filter fun x => !decide (now < (f x.1).getD 0)).map (·.1) ↔ ∃ c, f x = some c ∧ c ≤ now := by
      intro x
      rw [hfl, List.mem_filter, hmem]
      cases f x <;> simp
    generalize hF : (ls.filter fun x => !decide (now < (f x.1).getD 0)) = F at *
    refine ⟨some ⟨g, 0, none⟩, F.map (·.1), cap, by simp, ?_, ?_, hmem2, ?_, by simp; omega, hcm, fun _ => ⟨g, rfl, fun i hi => ?_⟩, ?_⟩
    · rw [hfl]; exact hsort.filter _
    · rw [hfl]; exact hnd.filter _
    · intro x hx; obtain ⟨y, _, rfl⟩ := List.mem_map.1 hx; exact y.2
    · have hi' : i < F.length := by simpa using hi
      have := cell?_putRow encS (Sort.ahead w1 q) g 0 ls.toArray (F ++ List.replicate (ls.length - F.length) default).toArray hH (by simp; omega) i (by simp; omega)
      rw [Nat.zero_add] at this
      rw [this]
      have hg : (F ++ List.replicate (ls.length - F.length) default).toArray[i]! = F[i] := by
        rw [getElem!_pos _ i (by simp; omega)]
        simp [List.getElem_append_left, hi']
      rw [hg]
      simp [List.getD, hi']
    · exact (((Below.refl _ _).alloc (Nat.le_refl _) _).alloc (by simp) _).trans ((hbel.mono (by simp; omega)).trans (putRow_below _ _ _ _ _ _ (by omega)))

end Go.Proofs.Ytbekjfbaelobdaa
