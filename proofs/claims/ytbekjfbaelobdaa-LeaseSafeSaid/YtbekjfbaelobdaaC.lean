/- What New, Renew, Drop and Left of a table of leases come to, in memory. Conditions: the numbers are of 64 bits; fewer than a million renewals. -/
import Derived.Test.YtbekjfbaelobdaaB
import Derived.Test.YtbekjfbaelobdaaShelf
import Derived.Shelf.AbstractIn
import Derived.Maps.OwnOps
import Derived.BigQuiet
import Derived.Deep.QuietTactic
namespace Go.Proofs.Ytbekjfbaelobdaa
open Go.RowKit Go.Maps

/-- A table, as it lies in memory: block b, its map bm. -/
def TableAt (w : World) (b bm : Nat) (T : Int) (n : Nat) (f : Int → Option Int) : Prop :=
  Blk w b #[.int .i64 T, .map (some bm)] 50 ∧ IMap w bm n f ∧ b ≠ bm

theorem TableAt.chg {w w' : World} {b bm n : Nat} {T : Int} {f : Int → Option Int} (h : TableAt w b bm T n f) {S : List Nat} (hc : Chg S w w') (h1 : b ∉ S) (h2 : bm ∉ S) : TableAt w' b bm T n f :=
  ⟨h.1.chg hc h1, h.2.1.chg hc h2, h.2.2⟩
theorem TableAt.drewN {w : World} {b bm n : Nat} {T : Int} {f : Int → Option Int} (h : TableAt w b bm T n f) (m : Nat) : TableAt (w.drewN m) b bm T n f := h

theorem tnone_any {w : World} {b bm n : Nat} {T : Int} {f : Int → Option Int} (h : TableAt w b bm T n f) :
    Calls Try.prog 28 #[.pointer (some ⟨b, 0, none⟩)] w fun e w' => e = .returned (.bool false) ∧ w = w' := by
  have c1 := h.1.cell 1 (by rfl)
  have e1 := fun (w : World) (r : Option Nat) => run_eql_map_nil w _ _ _ r Try.underlying46
  go_enter Try.func28, Try.ntmps28
  go_wp2
  go_ret
  exact ⟨rfl, rfl⟩
theorem tnone_nil (w : World) :
    Calls Try.prog 28 #[.pointer none] w fun e w' => e = .returned (.bool true) ∧ w = w' := by
  go_enter Try.func28, Try.ntmps28
  go_wp2
  go_ret
  exact ⟨rfl, rfl⟩

theorem newTable_any (n : Int) (w : World) :
    Calls Try.prog 14 #[.int .i64 n] w fun e w' => e = .returned (.pointer (some ⟨w.heap.size + 1, 0, none⟩)) ∧ TableAt w' (w.heap.size + 1) w.heap.size (min (max n 1) 100000) 0 (fun _ => none) ∧ Chg [] w w' := by
  have hmm := @run_makeMap Try.prog
  go_enter Try.func14, Try.ntmps14
  go_wp2_with (first
    | (go_at_call 24; refine (term_any _ _).mono ?_; rintro e w' ⟨rfl, rfl⟩))
  go_ret
  refine ⟨by simp, ⟨?_, ?_, by omega⟩, ?_⟩
  · have hb := Blk.new (w.alloc (.map #[] 0)) #[.int .i64 (min (max n 1) 100000), .map (some w.heap.size)] 50
    rw [World.size_alloc] at hb
    exact hb
  · exact (IMap.made w).alloc _
  · exact ((Chg.refl _ w).alloc _).alloc _

theorem renew_no {w : World} {b bm n : Nat} {T : Int} {f : Int → Option Int} (h : TableAt w b bm T n f) (t1 : 1 ≤ T) (t2 : T ≤ 100000) (k now a : Int) (k0 : -9223372036854775808 ≤ k) (k1 : k ≤ 9223372036854775807)
    (h0 : -9223372036854775808 ≤ now) (h1 : now ≤ 9223372036854775807) (hf : f k = some a) (hle : behind now T ≤ a) :
    Calls Try.prog 15 #[.pointer (some ⟨b, 0, none⟩), .int .i64 k, .int .i64 now] w fun e w' => e = .returned (.bool false) ∧ w = w' := by
  have c0 := h.1.cell 0 (by rfl)
  have c1 := h.1.cell 1 (by rfl)
  have hfs : (f k).isSome = true := by rw [hf]; rfl
  have hfd : (f k).getD 0 = a := by rw [hf]; rfl
  go_enter Try.func15, Try.ntmps15
  go_wp2_with (first
    | (go_at_call 28; refine (tnone_any h).mono ?_; rintro e w' ⟨rfl, rfl⟩)
    | (go_at_call 27; refine (behind_any now T _ h0 h1 (by omega) (by omega)).mono ?_; rintro e w' ⟨rfl, rfl⟩)
    | (at_lookup; refine wpList_lookup_I _ rfl _ _ rfl bm n f rfl h.2.1 k rfl (WalkArith.wf_i64 (by omega)) ?_))
  go_ret
  exact ⟨rfl, rfl⟩

theorem renew_yes {w : World} {b bm n : Nat} {T : Int} {f : Int → Option Int} (h : TableAt w b bm T n f) (t1 : 1 ≤ T) (t2 : T ≤ 100000) (hn : n < 1000000) (k now : Int) (k0 : -9223372036854775808 ≤ k) (k1 : k ≤ 9223372036854775807)
    (h0 : -9223372036854775808 ≤ now) (h1 : now ≤ 9223372036854775807) (hc : (f k).isSome = false ∨ ((f k).isSome = true ∧ (f k).getD 0 < behind now T)) :
    Calls Try.prog 15 #[.pointer (some ⟨b, 0, none⟩), .int .i64 k, .int .i64 now] w fun e w' => e = .returned (.bool true) ∧ TableAt w' b bm T (n + 1) (upd f k (behind now T)) ∧ Chg [bm] w w' := by
  have c0 := h.1.cell 0 (by rfl)
  have c1 := h.1.cell 1 (by rfl)
  have hbr := behind_range h0 h1 (by omega : 0 ≤ T) (by omega : T ≤ 1000000)
  rcases hc with hfs | ⟨hfs, hlt⟩
  all_goals
    go_enter Try.func15, Try.ntmps15
    go_wp2_with (first
      | (go_at_call 28; refine (tnone_any h).mono ?_; rintro e w' ⟨rfl, rfl⟩)
      | (go_at_call 27; refine (behind_any now T _ h0 h1 (by omega) (by omega)).mono ?_; rintro e w' ⟨rfl, rfl⟩)
      | (at_lookup; refine wpList_lookup_I _ rfl _ _ rfl bm n f rfl h.2.1 k rfl (WalkArith.wf_i64 (by omega)) ?_)
      | (at_mapUpdate; refine wpList_store_I _ rfl _ _ _ rfl bm n f rfl h.2.1 (by unfold maxLen; omega) k (behind now T) rfl rfl (WalkArith.wf_i64 (by omega)) (WalkArith.wf_i64 (by omega)) ?_; intro w1 hI ht))
    go_ret
    exact ⟨rfl, ⟨h.1.grown ht.grown (by simp; exact h.2.2), hI, h.2.2⟩, (Chg.refl _ _).turned ht (by simp)⟩

theorem drop_any {w : World} {b bm n : Nat} {T : Int} {f : Int → Option Int} (h : TableAt w b bm T n f) (k : Int) (k0 : -9223372036854775808 ≤ k) (k1 : k ≤ 9223372036854775807) :
    Calls Try.prog 18 #[.pointer (some ⟨b, 0, none⟩), .int .i64 k] w fun e w' => e = .returned (.bool (f k).isSome) ∧ TableAt w' b bm T n (del f k) ∧ Chg [bm] w w' := by
  have c1 := h.1.cell 1 (by rfl)
  go_enter Try.func18, Try.ntmps18
  go_wp2_with (first
    | (go_at_call 28; refine (tnone_any h).mono ?_; rintro e w' ⟨rfl, rfl⟩)
    | (at_lookup; refine wpList_lookup_I _ rfl _ _ rfl bm n f rfl h.2.1 k rfl (WalkArith.wf_i64 (by omega)) ?_)
    | (at_delete; refine wpList_delete_I _ rfl _ _ rfl bm n f rfl h.2.1 k rfl (WalkArith.wf_i64 (by omega)) ?_; intro w1 hI ht))
  go_ret
  exact ⟨rfl, ⟨h.1.grown ht.grown (by simp; exact h.2.2), hI, h.2.2⟩, (Chg.refl _ _).turned ht (by simp)⟩

theorem leftM_none {w : World} {b bm n : Nat} {T : Int} {f : Int → Option Int} (h : TableAt w b bm T n f) (k now : Int) (k0 : -9223372036854775808 ≤ k) (k1 : k ≤ 9223372036854775807) (hf : f k = none) :
    Calls Try.prog 17 #[.pointer (some ⟨b, 0, none⟩), .int .i64 k, .int .i64 now] w fun e w' => e = .returned (.int .i64 (-1)) ∧ w = w' := by
  have c1 := h.1.cell 1 (by rfl)
  have hfs : (f k).isSome = false := by rw [hf]; rfl
  go_enter Try.func17, Try.ntmps17
  go_wp2_with (first
    | (go_at_call 28; refine (tnone_any h).mono ?_; rintro e w' ⟨rfl, rfl⟩)
    | (at_lookup; refine wpList_lookup_I _ rfl _ _ rfl bm n f rfl h.2.1 k rfl (WalkArith.wf_i64 (by omega)) ?_))
  go_ret
  exact ⟨rfl, rfl⟩
theorem leftM_some {w : World} {b bm n : Nat} {T : Int} {f : Int → Option Int} (h : TableAt w b bm T n f) (k now a : Int) (k0 : -9223372036854775808 ≤ k) (k1 : k ≤ 9223372036854775807) (hf : f k = some a)
    (a0 : -9223372036854775808 ≤ a) (a1 : a ≤ 9223372036854775807) (h0 : -9223372036854775808 ≤ now) (h1 : now ≤ 9223372036854775807) :
    Calls Try.prog 17 #[.pointer (some ⟨b, 0, none⟩), .int .i64 k, .int .i64 now] w fun e w' => e = .returned (.int .i64 (leftOf a now)) ∧ w = w' := by
  have c1 := h.1.cell 1 (by rfl)
  have hfs : (f k).isSome = true := by rw [hf]; rfl
  have hfd : (f k).getD 0 = a := by rw [hf]; rfl
  go_enter Try.func17, Try.ntmps17
  go_wp2_with (first
    | (go_at_call 28; refine (tnone_any h).mono ?_; rintro e w' ⟨rfl, rfl⟩)
    | (go_at_call 26; refine (left_any a now _ a0 a1 h0 h1).mono ?_; rintro e w' ⟨rfl, rfl⟩)
    | (at_lookup; refine wpList_lookup_I _ rfl _ _ rfl bm n f rfl h.2.1 k rfl (WalkArith.wf_i64 (by omega)) ?_))
  go_ret
  exact ⟨rfl, rfl⟩

end Go.Proofs.Ytbekjfbaelobdaa
