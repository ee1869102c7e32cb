/- The function Play of the package hist: is all right, and the array at the end. Condition: the events and the cuts can be read; at most 400 events. -/
import Derived.Test.YteokjobkjmibfaaGreatF
import Derived.Deep.RegionWith
import Derived.Deep.RegionHeld3
import Derived.Deep.AppendLies
namespace Go.Proofs.YteokjobkjmibfaaGreat
open Go.RowKit Go.Maps

/-- a slice of numbers that can be read -/
def NumsAt (w : World) (a : Option Addr) (C : List Int) : Prop :=
  (∀ x ∈ C, wfu64 x) ∧ C.length ≤ 1000000 ∧ (C = [] ∨ ∃ b o, a = some ⟨b, o, none⟩ ∧ ∀ k, k < C.length → w.cell? ⟨b, o + k, none⟩ = some (.int .u64 (C.getD k 0)))

/-- where Play stands -/
structure PSt where
  f : Arr
  ok : Bool
  stay : List Ev
  gone : Gns
  cuts : List Int

def PSt.start (cuts : List Int) : PSt := { f := fun _ => none, ok := true, stay := [], gone := fun _ _ => false, cuts := cuts }

def PSt.left (s : PSt) (e : Ev) : List Ev := s.stay.filter fun x => !gonep e.node e.epoch (s.cuts.headD 0) x

def pstep (pre : List Ev) (s : PSt) (e : Ev) : PSt :=
  if e.kind = 1 then (if s.gone e.node e.epoch = true then s else { s with ok := s.ok && e.rs.all s.f.right, f := s.f.write e.ws, stay := s.stay ++ [e.grt pre] })
  else if e.kind = 3 then { s with f := (alone (s.left e)).1, stay := s.left e, gone := gput s.gone e.node e.epoch, cuts := s.cuts.tail }
  else if e.kind = 4 then { s with ok := s.ok && e.rs.all s.f.right }
  else s

def plays (L : List Ev) (cuts : List Int) : Nat → PSt
  | 0 => .start cuts
  | k + 1 => pstep (L.take k) (plays L cuts k) (L.getD k default)

def playOk (L : List Ev) (cuts : List Int) : Bool := (plays L cuts L.length).ok && (alone (plays L cuts L.length).stay).2
def playArr (L : List Ev) (cuts : List Int) : Arr := (alone (plays L cuts L.length).stay).1

/-- the images of an array, in their order -/
def Shows (f : Arr) (I : List Img) : Prop := (I.map Img.block).Pairwise (· < ·) ∧ ∀ i, i ∈ I ↔ i.ver = 0 ∧ f i.block = some i.data

/-- what lies where in Play's loop -/
structure PMem (w wr : World) (s : PSt) (bm bg n ng : Nat) (a : Option Addr) (cap : Nat) (ca : Option Addr) : Prop where
  arr : SMap wr bm n s.f
  gn : WMap wr bg ng s.gone
  stay : OwnE wr a cap s.stay
  new : w.heap.size ≤ bm ∧ w.heap.size ≤ bg ∧ bm ≠ bg ∧ ∀ g, blkOf a = some g → w.heap.size ≤ g
  nums : NumsAt w ca s.cuts
  lies : ∀ e ∈ s.stay, e.lies w
  chg : Chg [] w wr

theorem wfu64_of {x : Int} (h0 : 0 ≤ x) (h1 : x ≤ 18446744073709551615) : wfu64 x := by
  unfold wfu64
  simp [Lit.wf, IntKind.min, IntKind.max, IntKind.signed, IntKind.bits]
  omega

theorem SMap.ne {w : World} {b n g : Nat} {f : Arr} {cur : Array Value} {t : TypeId} (h : SMap w b n f) (hB : Blk w g cur t) : b ≠ g := by
  obtain ⟨D, ⟨es, clock, hb, _⟩, _⟩ := h
  rintro rfl
  unfold Blk at hB
  rw [hb] at hB
  cases hB
theorem WMap.ne {w : World} {b n g : Nat} {f : Gns} {cur : Array Value} {t : TypeId} (h : WMap w b n f) (hB : Blk w g cur t) : b ≠ g := by
  obtain ⟨D, ⟨es, clock, hb, _⟩, _⟩ := h
  rintro rfl
  unfold Blk at hB
  rw [hb] at hB
  cases hB
theorem OwnE.blk {w : World} {a : Option Addr} {cap : Nat} {L : List Ev} (h : OwnE w a cap L) {g : Nat} (hg : blkOf a = some g) : ∃ cur, Blk w g cur 66 := by
  obtain ⟨h1, ⟨rfl, _⟩ | ⟨g', cur, rfl, hB, r⟩⟩ := h
  · cases hg
  · cases hg; exact ⟨cur, hB⟩

section
variable {w wr wn : World} {s : PSt} {bm bg n ng n' : Nat} {a a' : Option Addr} {cap cap' : Nat} {ca : Option Addr}
theorem PMem.chg0 (h : PMem w wr s bm bg n ng a cap ca) (hc : Chg [] wr wn) : PMem w wn s bm bg n ng a cap ca :=
  ⟨h.arr.chg hc (by simp), h.gn.chg hc (by simp), h.stay.chg hc (by simp), h.new, h.nums, h.lies, h.chg.step hc (by simp)⟩
theorem PMem.alloc (h : PMem w wr s bm bg n ng a cap ca) (o : Obj) : PMem w (wr.alloc o) s bm bg n ng a cap ca := h.chg0 ((Chg.refl _ _).alloc o)
theorem PMem.below (h : PMem w wr s bm bg n ng a cap ca) (hb : Below wr.heap.size wr wn) : PMem w wn s bm bg n ng a cap ca := h.chg0 ((Chg.refl _ _).ofBelow hb)
theorem PMem.arrTo (h : PMem w wr s bm bg n ng a cap ca) {f' : Arr} (hm : SMap wn bm n' f') (hc : Chg [bm] wr wn) : PMem w wn { s with f := f' } bm bg n' ng a cap ca :=
  ⟨hm, h.gn.chg hc (by simp; exact fun e => h.new.2.2.1 e.symm), h.stay.chg hc (fun g hg => by
    obtain ⟨cur, hB⟩ := h.stay.blk hg
    simp; exact fun e => h.arr.ne hB e.symm), h.new, h.nums, h.lies, h.chg.step hc (by simp; exact h.new.1)⟩
/-- another array's map -/
theorem PMem.arrNew (h : PMem w wr s bm bg n ng a cap ca) {f' : Arr} {bm' : Nat} (hm : SMap wn bm' n' f') (hb : wr.heap.size ≤ bm') (hc : Chg [] wr wn) : PMem w wn { s with f := f' } bm' bg n' ng a cap ca :=
  ⟨hm, h.gn.chg hc (by simp), h.stay.chg hc (by simp), ⟨by have := h.chg.size; omega, h.new.2.1, by have := h.gn.lt; omega, h.new.2.2.2⟩, h.nums, h.lies, h.chg.step hc (by simp)⟩
theorem PMem.gnTo (h : PMem w wr s bm bg n ng a cap ca) {g' : Gns} {ng' : Nat} (hm : WMap wn bg ng' g') (hc : Chg [bg] wr wn) : PMem w wn { s with gone := g' } bm bg n ng' a cap ca :=
  ⟨h.arr.chg hc (by simp; exact h.new.2.2.1), hm, h.stay.chg hc (fun g hg => by
    obtain ⟨cur, hB⟩ := h.stay.blk hg
    simp; exact fun e => h.gn.ne hB e.symm), h.new, h.nums, h.lies, h.chg.step hc (by simp; exact h.new.2.1)⟩
theorem PMem.stayTo (h : PMem w wr s bm bg n ng a cap ca) {L' : List Ev} (ho : OwnE wn a' cap' L') (hc : Chg (blkOf a).toList wr wn) (ha : blkOf a' = blkOf a ∨ ∃ g, blkOf a' = some g ∧ wr.heap.size ≤ g) (hl : ∀ e ∈ L', e.lies w) : PMem w wn { s with stay := L' } bm bg n ng a' cap' ca := by
  refine ⟨h.arr.chg hc (fun hm => ?_), h.gn.chg hc (fun hm => ?_), ho, ⟨h.new.1, h.new.2.1, h.new.2.2.1, fun g hg => ?_⟩, h.nums, hl, h.chg.step hc (fun k hk => .inr (h.new.2.2.2 k (by simpa using hk)))⟩
  · obtain ⟨cur, hB⟩ := h.stay.blk (g := bm) (by simpa using hm)
    exact h.arr.ne hB rfl
  · obtain ⟨cur, hB⟩ := h.stay.blk (g := bg) (by simpa using hm)
    exact h.gn.ne hB rfl
  · rcases ha with ha | ⟨g', ha, hg'⟩
    · rw [ha] at hg; exact h.new.2.2.2 g hg
    · rw [ha] at hg; cases hg; have := h.chg.size; omega
theorem PMem.okTo (h : PMem w wr s bm bg n ng a cap ca) (b : Bool) : PMem w wr { s with ok := b } bm bg n ng a cap ca := ⟨h.arr, h.gn, h.stay, h.new, h.nums, h.lies, h.chg⟩
theorem PMem.cutsTo (h : PMem w wr s bm bg n ng a cap ca) {ca' : Option Addr} {C' : List Int} (hn : NumsAt w ca' C') : PMem w wr { s with cuts := C' } bm bg n ng a cap ca' := ⟨h.arr, h.gn, h.stay, h.new, hn, h.lies, h.chg⟩
end

theorem NumsAt.chgN {w w' : World} {a : Option Addr} {L : List Int} (h : NumsAt w a L) {S : List Nat} (hc : Chg S w w') (hn : ∀ g, g < w.heap.size → g ∉ S) : NumsAt w' a L := by
  obtain ⟨h1, h2, rfl | ⟨b, o, rfl, h3⟩⟩ := h
  · exact ⟨h1, h2, .inl rfl⟩
  · refine ⟨h1, h2, .inr ⟨b, o, rfl, fun k hk => ?_⟩⟩
    have c := h3 k hk
    have hb := lt_of_cell c
    exact (hc.cell (p := ⟨b, o + k, none⟩) hb (hn _ hb)).trans c

theorem NumsAt.tail {w : World} {b o : Nat} {x : Int} {r : List Int} (h : NumsAt w (some ⟨b, o, none⟩) (x :: r)) : NumsAt w (some ⟨b, o + 1, none⟩) r := by
  obtain ⟨h1, h2, h0 | ⟨b', o', he, h3⟩⟩ := h
  · cases h0
  · cases he
    refine ⟨fun y hy => h1 y (List.mem_cons_of_mem _ hy), by simp at h2; omega, .inr ⟨b, o + 1, rfl, fun k hk => ?_⟩⟩
    have := h3 (k + 1) (by simp; omega)
    rw [show o + 1 + k = o + (k + 1) by omega, this]
    rfl

theorem six_new (w : World) (e : Ev) : ∀ r, r < 6 → (w.alloc (.cells #[.int .i64 e.kind, .int .i64 e.node, .int .u64 e.epoch, .int .u64 e.lsn, .slice e.ra e.rs.length e.rc, .slice e.wa e.ws.length e.wc] 66)).cell? ⟨w.heap.size, r, none⟩ = e.six[r]? := fun r hr => by
  have hB := Blk.new w #[.int .i64 e.kind, .int .i64 e.node, .int .u64 e.epoch, .int .u64 e.lsn, .slice e.ra e.rs.length e.rc, .slice e.wa e.ws.length e.wc] 66
  match r, hr with
  | 0, _ => exact hB.cell 0 rfl
  | 1, _ => exact hB.cell 1 rfl
  | 2, _ => exact hB.cell 2 rfl
  | 3, _ => exact hB.cell 3 rfl
  | 4, _ => exact hB.cell 4 rfl
  | 5, _ => exact hB.cell 5 rfl

theorem three_new (w : World) (e : Img) : ∀ r, r < 3 → (w.alloc (.cells #[.int .i64 e.block, .int .u64 e.ver, .string e.data] 69)).cell? ⟨w.heap.size, r, none⟩ = e.three[r]? := fun r hr => by
  have hB := Blk.new w #[.int .i64 e.block, .int .u64 e.ver, .string e.data] 69
  match r, hr with
  | 0, _ => exact hB.cell 0 rfl
  | 1, _ => exact hB.cell 1 rfl
  | 2, _ => exact hB.cell 2 rfl

theorem Ev.grt_ok {e : Ev} {L : List Ev} (he : e.ok) (hL : ∀ x ∈ L, x.ok) : (e.grt L).ok := by
  unfold Ev.grt
  split
  · exact he
  · refine ⟨he.1, he.2.1, he.2.2.1, ?_⟩
    have h0 := rangeu64 he.2.2.2
    have : ∀ (L : List Ev) (m : Int), (∀ x ∈ L, x.ok) → (0 ≤ m ∧ m ≤ 18446744073709551615) → 0 ≤ L.foldl (gstep e.node e.epoch) m ∧ L.foldl (gstep e.node e.epoch) m ≤ 18446744073709551615 := by
      intro L
      induction L with
      | nil => intro m _ h; exact h
      | cons x r ih => intro m hx hm; exact ih _ (fun y hy => hx y (List.mem_cons_of_mem _ hy)) (gstep_range hm (hx x (by simp)).2.2.2)
    have h1 := this L e.lsn hL h0
    show wfu64 _
    exact wfu64_of h1.1 h1.2

theorem grt_lies {e : Ev} {L : List Ev} {w : World} (h : e.lies w) : (e.grt L).lies w := by
  unfold Ev.grt
  split <;> exact h

/-- the relation at the head of Play's loop -/
def PRel (w : World) (L : List Ev) (C : List Int) (bg : Nat) (q : Nat) (s1 s6 s7 s8 s24 : Value) (wr : World) : Prop :=
  ∃ (k n ng bm cap cc : Nat) (a ca : Option Addr) (s : PSt), k ≤ L.length ∧ q = L.length - k ∧ s = plays L C k ∧ s24 = .int .i64 k ∧ s1 = .slice ca s.cuts.length cc ∧ s.cuts.length ≤ cc ∧ s6 = .map (some bm) ∧ s7 = .bool s.ok ∧ s8 = .slice a s.stay.length cap ∧
    n ≤ 1000000 * (500 + k) ∧ ng ≤ k ∧ s.stay.length ≤ k ∧ PMem w wr s bm bg n ng a cap ca

/-- each string in the array came with an image -/
theorem write_small {f : Arr} {L : List Img} (hL : ∀ i ∈ L, i.ok) (hf : ∀ k c, f k = some c → c.size ≤ 1000000) : ∀ k c, f.write L k = some c → c.size ≤ 1000000 := by
  unfold Arr.write
  induction L generalizing f with
  | nil => exact hf
  | cons i r ih =>
    refine ih (fun x hx => hL x (List.mem_cons_of_mem _ hx)) (fun k c hk => ?_)
    have hk' : (if k = i.block then some i.data else f k) = some c := hk
    split at hk'
    · cases hk'; exact (hL i (by simp)).2.2
    · exact hf k c hk'

theorem alone_small {w : World} {L : List Ev} (hL : ∀ e ∈ L, e.lies w) : ∀ k c, (alone L).1 k = some c → c.size ≤ 1000000 := by
  unfold alone
  have : ∀ (L : List Ev) (p : Arr × Bool), (∀ e ∈ L, e.lies w) → (∀ k c, p.1 k = some c → c.size ≤ 1000000) → ∀ k c, (L.foldl aloneStep p).1 k = some c → c.size ≤ 1000000 := by
    intro L
    induction L with
    | nil => intro p _ h; exact h
    | cons e r ih => intro p he hp; exact ih _ (fun x hx => he x (List.mem_cons_of_mem _ hx)) (write_small (he e (by simp)).2.1 hp)
  exact this L _ hL (by intro k c h; cases h)

theorem ownsRow_cellI {w : World} {base n cap : Nat} {a : Option Addr} {L : List Int} (h : w.ownsRow base 3 1 (.slice a n cap) n (L.map (Value.int .i64))) {i : Nat} (hi : i < n) :
    ∃ g, a = some ⟨g, 0, none⟩ ∧ base ≤ g ∧ w.cell? ⟨g, i, none⟩ = some (.int .i64 (L.getD i 0)) := by
  rcases h.2 with ⟨_, h0⟩ | ⟨g, c, cur, he, hb, hg, _, _, hs, ht⟩
  · omega
  · cases he
    refine ⟨g, rfl, hb, ?_⟩
    have hL : n = L.length := by have := h.1; simp at this; omega
    have h1 : (cur.toList.take (n * 1))[i]? = (L.map (Value.int .i64))[i]? := by rw [ht]
    rw [List.getElem?_take_of_lt (by omega), List.getElem?_map, List.getElem?_eq_getElem (by omega : i < L.length)] at h1
    simp only [World.cell?, hg]
    rw [List.getD_eq_getElem?_getD, List.getElem?_eq_getElem (by omega : i < L.length)]
    simpa using h1

/-- the images that Play hands back -/
def shown (f : Arr) (l : List Int) : List Img := l.map fun x => ⟨x, 0, (f x).getD ⟨#[]⟩⟩

theorem shows_shown {f : Arr} {l : List Int} (hs : l.Pairwise (· ≤ ·)) (hn : l.Nodup) (hm : ∀ x, x ∈ l ↔ (f x).isSome = true) : Shows f (shown f l) := by
  refine ⟨?_, fun i => ?_⟩
  · unfold shown
    rw [List.map_map]
    have h2 : l.Pairwise (· < ·) := (hs.and hn).imp (fun ⟨h1, h2⟩ => by omega)
    rw [List.pairwise_map]
    exact h2
  · unfold shown
    rw [List.mem_map]
    constructor
    · rintro ⟨x, hx, rfl⟩
      obtain ⟨c, hc⟩ := Option.isSome_iff_exists.1 ((hm x).1 hx)
      exact ⟨rfl, by simp [hc]⟩
    · rintro ⟨h1, h2⟩
      refine ⟨i.block, (hm _).2 (by rw [h2]; rfl), ?_⟩
      obtain ⟨b, v, d⟩ := i
      simp only at h1 h2
      simp [h1, h2]

set_option maxHeartbeats 4000000 in
set_option maxRecDepth 1000000 in
theorem play_any {w : World} {la : Option Addr} {L : List Ev} (hL : EvRow w la L) (hl : ∀ e ∈ L, e.lies w) (hlen : L.length ≤ 400) (lc : Nat) (hlc : L.length ≤ lc) {ca : Option Addr} {C : List Int} (hC : NumsAt w ca C) (cc : Nat) (hcc : C.length ≤ cc) :
    Calls Tryz.prog 12 #[.slice la L.length lc, .slice ca C.length cc] w fun x w' => (∃ a I cap, x = .returned (.tuple #[.bool (playOk L C), .slice a I.length cap]) ∧ (OwnM w' a cap I ∧ ∀ g, blkOf a = some g → w.heap.size ≤ g) ∧ Shows (playArr L C) I) ∧ Below w.heap.size w w' := by
  have hmm := @run_makeMap Tryz.prog
  have hoks := hL.1
  go_enter Tryz.func12, Tryz.ntmps12
  go_wp2_with fail
  have hm0 : PMem w ((w.alloc (.map #[] 0)).alloc (.map #[] 0)) (.start C) w.heap.size (w.heap.size + 1) 0 0 none 0 ca :=
    ⟨(SMap.made w).alloc _, by have := WMap.made (w.alloc (.map #[] 0)); rw [World.size_alloc] at this; exact this, OwnE.nil _, ⟨Nat.le_refl _, by omega, by omega, by simp [blkOf]⟩, hC, by simp [PSt.start], ((Chg.refl _ w).alloc _).alloc _⟩
  go_loopg [1, 6, 7, 8, 24] L.length (fun q s1 s6 s7 s8 s24 wr => PRel w L C (w.heap.size + 1) q s1 s6 s7 s8 s24 wr)
  case atStart => exact ⟨0, 0, 0, w.heap.size, 0, cc, none, ca, .start C, Nat.zero_le _, rfl, rfl, rfl, rfl, hcc, rfl, rfl, rfl, by omega, Nat.le_refl _, Nat.zero_le _, hm0⟩
  case round =>
    obtain ⟨k, n, ng, bm, cap, cc, a, ca, s, hk, rfl, hs, rfl, rfl, hcs, rfl, rfl, rfl, hn, hng, hsl, hM⟩ := hrel
    clear hm0 hC hcc
    have HS := Lib.hid hs
    clear hs
    by_cases hlt : k < L.length
    case neg =>
      obtain rfl : k = L.length := by omega
      have hA := alone_any (hM.stay.row (by omega)) (fun y hy => (hM.lies y hy).chgN hM.chg (by simp)) (by omega) cap
      have hsm := alone_small hM.lies
      have hP1 : playOk L C = (s.ok && (alone s.stay).2) := by unfold playOk; rw [← HS.out]
      have hP2 : playArr L C = (alone s.stay).1 := by unfold playArr; rw [← HS.out]
      rw [← hP2] at hsm
      have HP1 := Lib.hid hP1
      have HP2 := Lib.hid hP2
      have hCM := hM.chg
      clear hP1 hP2 hM
      go_wp2_with fail
      refine hA.mono ?_
      rintro e w1 ⟨⟨bm1, rfl, hbm1, hS1⟩, hb1⟩
      rw [← HP2.out] at hS1
      go_wp2_with fail
      refine (keys_any _ _).mono ?_
      rintro e w2 ⟨rfl, rfl⟩
      have hSo := sorted_any (hS1.alloc (.cells #[.map (some bm1)] 75)) (by omega) (cb := w1.heap.size) (by simp)
      go_wp2_with fail
      refine hSo.mono ?_
      rintro e w3 ⟨v, l, rfl, hrow, hnil, hsort, hnd, hmem, hwf, hll, hb3⟩
      obtain ⟨ka, kc, rfl, _⟩ := ownsRow_shape hrow
      have hS3 := (hS1.alloc (.cells #[.map (some bm1)] 75)).chg ((Chg.refl [] _).ofBelow hb3) (by simp)
      have hC3 : Chg [] w w3 := ((hCM.ofBelow hb1).alloc _).ofBelow hb3
      have HNIL := Lib.hid hnil
      have HSM := Lib.hid hsm
      have HSORT := Lib.hid hsort
      have HND := Lib.hid hnd
      have HMEM := Lib.hid hmem
      have HWF := Lib.hid hwf
      have HROW := Lib.hid hrow
      have HOKS := Lib.hid hoks
      have HL := Lib.hid hl
      have HLR := Lib.hid hL
      clear hnil hSo hA hsm hsort hnd hmem hwf hrow hoks hl hL hn hng
      go_wp2_with fail
      go_loopg [17, 19, 104] l.length (fun q s17 _ s104 wr => ∃ (k : Nat) (a : Option Addr) (cap : Nat), k ≤ l.length ∧ q = l.length - k ∧ s104 = .int .i64 k ∧ s17 = .slice a k cap ∧ OwnM wr a cap (shown (playArr L C) (l.take k)) ∧ (∀ g, blkOf a = some g → w3.heap.size ≤ g) ∧ Chg [] w3 wr)
      case atStart => exact ⟨0, none, 0, Nat.zero_le _, rfl, rfl, rfl, OwnM.nil _, by simp [blkOf], Chg.refl _ _⟩
      case round =>
        obtain ⟨k, a2, cap2, hk2, rfl, rfl, rfl, hO, hg, hC2⟩ := hrel
        have hCw := hC3.step hC2 (by simp)
        by_cases hlt : k < l.length
        case neg =>
          obtain rfl : k = l.length := by omega
          rw [List.take_length] at hO
          have hlen2 : (shown (playArr L C) l).length = l.length := by unfold shown; rw [List.length_map]
          have HL2 := Lib.hid hlen2
          have HO := Lib.hid hO
          clear hlen2 hO
          cases hok : s.ok
          · have HOK := Lib.hid hok
            clear hok
            go_wp2_with fail
            go_ret2
            refine ⟨⟨a2, shown (playArr L C) l, cap2, ?_, ⟨HO.out, fun g h => Nat.le_trans hC3.size (hg g h)⟩, shows_shown HSORT.out HND.out HMEM.out⟩, hCw.below (Nat.le_refl _) (by simp)⟩
            rw [HP1.out, HL2.out, HOK.out]
            rfl
          · have HOK := Lib.hid hok
            clear hok
            go_wp2_with fail
            go_ret2
            refine ⟨⟨a2, shown (playArr L C) l, cap2, ?_, ⟨HO.out, fun g h => Nat.le_trans hC3.size (hg g h)⟩, shows_shown HSORT.out HND.out HMEM.out⟩, hCw.below (Nat.le_refl _) (by simp)⟩
            rw [HP1.out, HL2.out, HOK.out]
            rfl
        case pos =>
          obtain ⟨g, rfl, hgb, hcell⟩ := ownsRow_cellI HROW.out hlt
          have hck := (hC2.cell (p := ⟨g, k, none⟩) (lt_of_cell hcell) (by simp)).trans hcell
          have hxm : l.getD k 0 ∈ l := by
            rw [List.getD_eq_getElem?_getD, List.getElem?_eq_getElem hlt]; exact List.getElem_mem _
          have hxw := HWF.out _ hxm
          obtain ⟨d, hd⟩ := Option.isSome_iff_exists.1 ((HMEM.out _).1 hxm)
          have hds := HSM.out _ d hd
          have hlk := (hS3.chg hC2 (by simp)).look (l.getD k 0) hxw
          rw [hd] at hlk
          have hst : shown (playArr L C) (l.take (k + 1)) = shown (playArr L C) (l.take k) ++ [⟨l.getD k 0, 0, d⟩] := by
            unfold shown
            rw [show l.take (k + 1) = l.take k ++ [l.getD k 0] from take_step hlt, List.map_append, List.map_cons, List.map_nil, hd]
            rfl
          have hlt2 : (shown (playArr L C) (l.take k)).length = k := by unfold shown; rw [List.length_map, List.length_take]; omega
          obtain ⟨S, hS⟩ : ∃ S, shown (playArr L C) (l.take k) = S := ⟨_, rfl⟩
          rw [hS] at hst hlt2 hO
          generalize l.getD k 0 = x at hck hxw hlk hst
          have HST := Lib.hid hst
          have HO := Lib.hid hO
          simp only [Option.getD_some] at hlk
          have hSl : S.length < 1000000000 := by omega
          have HLT := Lib.hid hlt2
          clear hst hlt2 hxm hd hO hcell hS
          have hClo := clone_any d wr (by omega)
          go_wp2_with fail
          refine hClo.mono ?_
          rintro e w4 ⟨rfl, hb4⟩
          have hO4 := HO.out.chg ((Chg.refl [] wr).ofBelow hb4) (by simp)
          have hO5 := OwnM.chg (S := []) hO4 ((Chg.refl [] w4).alloc (.cells #[.int .i64 x, .int .u64 0, .string d] 69)) (by simp)
          have hC5 := ((hC2.ofBelow hb4).alloc (.cells #[.int .i64 x, .int .u64 0, .string d] 69))
          have hgl : ∀ g, blkOf a2 = some g → g < wr.heap.size := fun g hg => HO.out.lt hg
          have hok1 : Img.ok ⟨x, 0, d⟩ := ⟨hxw, wfu64_of (by simp) (by simp), hds⟩
          have hs5 := hb4.size
          have hs6 := hC2.size
          have HO5 := Lib.hid hO5
          have HG := Lib.hid hg
          clear hO5 hO4 hg hlk hgl
          go_wp2_with (at_builtin; refine wpList_appendM _ rfl _ _ rfl a2 cap2 S (by simp only [HLT.out]; rfl) HO5.out hSl w4.heap.size 1 ⟨x, 0, d⟩ hok1 rfl (three_new w4 ⟨x, 0, d⟩) ?_; intro a5 cap5 w5 hO6 hg6 hat6)
          go_roundg (l.length - (k + 1))
          case measure => omega
          case rel => exact ⟨k + 1, a5, cap5, by omega, rfl, by go_num, by rw [HLT.out], by rw [HST.out]; exact hO6, (by
            intro g hg
            rcases hat6 with h | h
            · rw [h] at hg; exact HG.out g hg
            · rw [h] at hg; cases hg; rw [World.size_alloc]; omega), hC5.grown hg6 (fun j hj => .inr (HG.out j hj))⟩
    case pos =>
      have hLr := hL.chgN hM.chg (by simp)
      have hel := hl _ (getD_mem hlt)
      obtain ⟨b, o, rfl, hcs6, hok⟩ := hLr.at_ hlt
      obtain ⟨d0, d1, d2, d3, d4, d5⟩ := hcs6 k hlt
      obtain ⟨x, hx⟩ : ∃ x, L.getD k default = x := ⟨_, rfl⟩
      rw [hx] at d0 d1 d2 d3 d4 d5 hok hel
      have HX := Lib.hid hx
      clear hx hcs6
      obtain ⟨xk, xn, xe, xl, xrs, xws, xra, xrc, xwa, xwc⟩ := x
      simp only at d0 d1 d2 d3 d4 d5
      have hok1 := hok.2.1
      have hok2 := hok.2.2.1
      simp only at hok1 hok2
      by_cases q1 : xk = 1
      case pos =>
        subst q1
        cases hgo : s.gone xn xe
        case true =>
          have hW := (hM.gn.alloc (.cells #[.int .i64 1, .int .i64 xn, .int .u64 xe, .int .u64 xl, .slice xra xrs.length xrc, .slice xwa xws.length xwc] 66)).alloc (.cells #[.int .i64 xn, .int .u64 xe] 78)
          go_wp2_with (at_lookup; refine wpList_lookup_W _ rfl _ _ rfl (w.heap.size + 1) ng s.gone rfl hW xn xe rfl hok1 hok2 ?_; rw [hgo]; intro cv)
          have HGO := Lib.hid hgo
          clear hgo
          have hst : plays L C (k + 1) = s := by
            show pstep (L.take k) (plays L C k) (L.getD k default) = s
            rw [HX.out, ← HS.out]
            unfold pstep
            rw [if_pos rfl, if_pos HGO.out]
          have HST := Lib.hid hst
          clear hst
          go_roundg (L.length - (k + 1))
          case measure => omega
          case rel => exact ⟨k + 1, n, ng, bm, cap, cc, a, ca, s, by omega, rfl, HST.out.symm, by go_num, rfl, hcs, rfl, rfl, rfl, by omega, by omega, by omega, (hM.alloc _).alloc _⟩
        case false =>
          have hW := (hM.gn.alloc (.cells #[.int .i64 1, .int .i64 xn, .int .u64 xe, .int .u64 xl, .slice xra xrs.length xrc, .slice xwa xws.length xwc] 66)).alloc (.cells #[.int .i64 xn, .int .u64 xe] 78)
          have hst : plays L C (k + 1) = { s with ok := s.ok && xrs.all s.f.right, f := s.f.write xws, stay := s.stay ++ [Ev.grt ⟨1, xn, xe, xl, xrs, xws, xra, xrc, xwa, xwc⟩ (L.take k)] } := by
            show pstep (L.take k) (plays L C k) (L.getD k default) = _
            rw [HX.out, ← HS.out]
            unfold pstep
            rw [if_pos rfl, if_neg (by rw [hgo]; simp)]
          have HST := Lib.hid hst
          clear hst
          have hM1 := (hM.alloc (.cells #[.int .i64 1, .int .i64 xn, .int .u64 xe, .int .u64 xl, .slice xra xrs.length xrc, .slice xwa xws.length xwc] 66)).alloc (.cells #[.int .i64 xn, .int .u64 xe] 78)
          have hsz1 : ((wr.alloc (.cells #[.int .i64 1, .int .i64 xn, .int .u64 xe, .int .u64 xl, .slice xra xrs.length xrc, .slice xwa xws.length xwc] 66)).alloc (.cells #[.int .i64 xn, .int .u64 xe] 78)).heap.size = wr.heap.size + 2 := by simp
          have hB1 : Blk ((wr.alloc (.cells #[.int .i64 1, .int .i64 xn, .int .u64 xe, .int .u64 xl, .slice xra xrs.length xrc, .slice xwa xws.length xwc] 66)).alloc (.cells #[.int .i64 xn, .int .u64 xe] 78)) wr.heap.size #[.int .i64 1, .int .i64 xn, .int .u64 xe, .int .u64 xl, .slice xra xrs.length xrc, .slice xwa xws.length xwc] 66 := (Blk.new wr _ 66).alloc _
          go_upto_region 12 with (at_lookup; refine wpList_lookup_W _ rfl _ _ rfl (w.heap.size + 1) ng s.gone rfl hW xn xe rfl hok1 hok2 ?_; rw [hgo]; intro cv)
          generalize ((wr.alloc (.cells #[.int .i64 1, .int .i64 xn, .int .u64 xe, .int .u64 xl, .slice xra xrs.length xrc, .slice xwa xws.length xwc] 66)).alloc (.cells #[.int .i64 xn, .int .u64 xe] 78)) = w1 at hM1 hB1 hsz1 hW ⊢
          go_cut [7] (fun s7 wx => s7 = .bool (s.ok && xrs.all s.f.right) ∧ Below w1.heap.size w1 wx)
          case first =>
            have k4 := hB1.cell 4 rfl
            cases hok3 : s.ok
            · go_wp2_with fail
              go_meet
              exact ⟨by rw [hok3]; rfl, Below.refl _ _⟩
            · have hR := reads_any hM1.arr (hel.1.chgN hM1.chg (by simp)) xrc
              simp only at hR
              obtain ⟨rg, hrg⟩ : ∃ rg, xrs.all s.f.right = rg := ⟨_, rfl⟩
              rw [hrg] at hR
              have HRG := Lib.hid hrg
              clear hrg
              go_wp2_with fail
              refine hR.mono ?_
              rintro e w2 ⟨rfl, hb⟩
              go_wp2_with fail
              go_meet
              exact ⟨by rw [hok3, HRG.out]; rfl, hb⟩
          case rest =>
            obtain ⟨rfl, hb⟩ := hcut
            have hM2 := hM1.below hb
            have hB2 := hB1.chg ((Chg.refl [] _).ofBelow hb) (by simp)
            have hsz2 := hb.size
            clear hM1 hB1 hW
            have b5 := hB2.cell 5 rfl
            have hxw := hel.2.2.1
            simp only at hxw
            have hWr := write_any hM2.arr (hel.2.chgN hM2.chg (by simp)) (by omega) xwc
            simp only at hWr
            go_upto_region 14 with (go_at_call 25; refine hWr.mono ?_; rintro e w3 ⟨rfl, hM3, hC3⟩)
            have hM3' := hM2.arrTo hM3 hC3
            have hB3 := hB2.chg hC3 (by simp; exact fun e => hM2.arr.ne hB2 e.symm)
            have hsz3 := hC3.size
            clear hM2 hB2 hWr b5
            have t0 := hB3.cell 0 rfl
            have t1 := hB3.cell 1 rfl
            have t2 := hB3.cell 2 rfl
            have t3 := hB3.cell 3 rfl
            have t4 := hB3.cell 4 rfl
            have t5 := hB3.cell 5 rfl
            have hgok := Ev.grt_ok hok (L := L.take k) (fun x hx => hoks x (List.mem_of_mem_take hx))
            have hgl := grt_lies (L := L.take k) hel
            have hL4 := (hL.chgN (hM3'.chg.drew) (by simp)).take k
            have hG := greatest_any hL4 ⟨1, xn, xe, xl, xrs, xws, xra, xrc, xwa, xwc⟩ hok lc
            rw [show (L.take k).length = k by rw [List.length_take]; omega] at hG
            obtain ⟨ge, hge⟩ : ∃ ge, Ev.grt ⟨1, xn, xe, xl, xrs, xws, xra, xrc, xwa, xwc⟩ (L.take k) = ge := ⟨_, rfl⟩
            rw [hge] at hG hgok hgl HST
            clear hge
            have f1 : (k : Int) ≤ (lc : Int) := by omega
            have f2 : k ≤ lc := by omega
            have f3 : (0 : Int) ≤ (k : Int) := Int.natCast_nonneg _
            have hM4 := hM3'.chg0 ((Chg.refl [] w3).drew)
            have hslen : s.stay.length < 1000000 := by omega
            have hwl : wr.heap.size < w3.heap.size := by omega
            have hax : ∀ g, blkOf a = some g → g ≠ wr.heap.size := fun g hg => by have := hM.stay.lt hg; omega
            clear hM hb hsz1 hsz2 hsz3 hC3 hM3
            go_region_held3 (fun w' => w'.cell? ⟨wr.heap.size, 0, none⟩ = some (.int .i64 1) ∧ w'.cell? ⟨wr.heap.size, 1, none⟩ = some (.int .i64 xn) ∧ w'.cell? ⟨wr.heap.size, 2, none⟩ = some (.int .u64 xe) ∧ w'.cell? ⟨wr.heap.size, 3, none⟩ = some (.int .u64 xl) ∧
                w'.cell? ⟨wr.heap.size, 4, none⟩ = some (.slice xra xrs.length xrc) ∧ w'.cell? ⟨wr.heap.size, 5, none⟩ = some (.slice xwa xws.length xwc))
              (first
                | go_keep
                | (go_split_ands
                   all_goals (try refine ⟨?_, ?_, ?_, ?_, ?_, ?_⟩)
                   all_goals (rw [hgr1.cell_far _ (Nat.lt_of_lt_of_le hwl4 (by simp)) (fun e => hax _ e.symm rfl)]; assumption))
                | (go_split_ands
                   all_goals (try refine ⟨?_, ?_, ?_, ?_, ?_, ?_⟩)
                   all_goals (rw [hb4.cell hwl]; assumption)))
              (first
                | (go_at_call 26; refine hG.mono ?_; rintro e w4 ⟨rfl, hb4⟩; have hwl4 : wr.heap.size < w4.heap.size := Nat.lt_of_lt_of_le hwl hb4.size; have hM5 := (hM4.below hb4).alloc (.cells #[.int .i64 ge.kind, .int .i64 ge.node, .int .u64 ge.epoch, .int .u64 ge.lsn, .slice ge.ra ge.rs.length ge.rc, .slice ge.wa ge.ws.length ge.wc] 66))
                | ((refine step_appendE _ (by rfl) _ _ (by rfl) a cap s.stay (by rfl) hM5.stay hslen w4.heap.size 1 ge hgok (by rfl) (six_new w4 ge) ?_; intro a' cap' w5 hown1 hgr1 hat1)))
            have hM6 := (hM5.stayTo (L' := s.stay ++ [ge]) hown1 ((Chg.refl _ _).grown hgr1 (fun j hj => .inl (by simp [hj]))) (by
              rcases hat1 with h | h
              · exact .inl h
              · exact .inr ⟨_, h, Nat.le_refl _⟩) (fun y hy => by
              rcases List.mem_append.1 hy with hy | hy
              · exact hM5.lies y hy
              · rw [List.mem_singleton.1 hy]; exact hgl)).okTo (s.ok && xrs.all s.f.right)
            clear hM5 hM4 hM3'
            go_wp2_with fail
            go_roundg (L.length - (k + 1))
            case measure => omega
            case rel => exact ⟨k + 1, n + xws.length, ng, bm, cap', cc, a', ca, { s with ok := s.ok && xrs.all s.f.right, f := s.f.write xws, stay := s.stay ++ [ge] }, by omega, rfl, HST.out.symm, by go_num, rfl, hcs, rfl, rfl, by rw [List.length_append]; rfl, by omega, by omega, by simp; omega, hM6⟩
      case neg =>
      by_cases q3 : xk = 3
      case pos =>
        subst q3
        have hst : plays L C (k + 1) = { s with f := (alone (s.stay.filter fun x => !gonep xn xe (s.cuts.headD 0) x)).1, stay := s.stay.filter (fun x => !gonep xn xe (s.cuts.headD 0) x), gone := gput s.gone xn xe, cuts := s.cuts.tail } := by
          show pstep (L.take k) (plays L C k) (L.getD k default) = _
          rw [HX.out, ← HS.out]
          unfold pstep
          rw [if_neg q1, if_pos rfl]
          rfl
        have HST := Lib.hid hst
        clear hst q1
        have hC1 : Chg [] wr (((wr.alloc (.cells #[.int .i64 3, .int .i64 xn, .int .u64 xe, .int .u64 xl, .slice xra xrs.length xrc, .slice xwa xws.length xwc] 66)).alloc (.cells #[.int .i64 xn, .int .u64 xe] 78)).alloc (.cells #[.int .u64 0] 64)) := (((Chg.refl _ wr).alloc _).alloc _).alloc _
        have hB1 : Blk (((wr.alloc (.cells #[.int .i64 3, .int .i64 xn, .int .u64 xe, .int .u64 xl, .slice xra xrs.length xrc, .slice xwa xws.length xwc] 66)).alloc (.cells #[.int .i64 xn, .int .u64 xe] 78)).alloc (.cells #[.int .u64 0] 64)) wr.heap.size #[.int .i64 3, .int .i64 xn, .int .u64 xe, .int .u64 xl, .slice xra xrs.length xrc, .slice xwa xws.length xwc] 66 := ((Blk.new wr _ 66).alloc _).alloc _
        have hB2 : Blk (((wr.alloc (.cells #[.int .i64 3, .int .i64 xn, .int .u64 xe, .int .u64 xl, .slice xra xrs.length xrc, .slice xwa xws.length xwc] 66)).alloc (.cells #[.int .i64 xn, .int .u64 xe] 78)).alloc (.cells #[.int .u64 0] 64)) (wr.heap.size + 1) #[.int .i64 xn, .int .u64 xe] 78 := by
          have h := Blk.new (wr.alloc (.cells #[.int .i64 3, .int .i64 xn, .int .u64 xe, .int .u64 xl, .slice xra xrs.length xrc, .slice xwa xws.length xwc] 66)) #[.int .i64 xn, .int .u64 xe] 78
          rw [World.size_alloc] at h
          exact h.alloc _
        have hB3 : Blk (((wr.alloc (.cells #[.int .i64 3, .int .i64 xn, .int .u64 xe, .int .u64 xl, .slice xra xrs.length xrc, .slice xwa xws.length xwc] 66)).alloc (.cells #[.int .i64 xn, .int .u64 xe] 78)).alloc (.cells #[.int .u64 0] 64)) (wr.heap.size + 1 + 1) #[.int .u64 0] 64 := by
          have h := Blk.new ((wr.alloc (.cells #[.int .i64 3, .int .i64 xn, .int .u64 xe, .int .u64 xl, .slice xra xrs.length xrc, .slice xwa xws.length xwc] 66)).alloc (.cells #[.int .i64 xn, .int .u64 xe] 78)) #[.int .u64 0] 64
          rw [World.size_alloc, World.size_alloc] at h
          exact h
        go_upto_if 68 with fail
        generalize (((wr.alloc (.cells #[.int .i64 3, .int .i64 xn, .int .u64 xe, .int .u64 xl, .slice xra xrs.length xrc, .slice xwa xws.length xwc] 66)).alloc (.cells #[.int .i64 xn, .int .u64 xe] 78)).alloc (.cells #[.int .u64 0] 64)) = w1 at hC1 hB1 hB2 hB3 ⊢
        go_cut [1] (fun s1 wx => ∃ ca' cc', s1 = .slice ca' s.cuts.tail.length cc' ∧ s.cuts.tail.length ≤ cc' ∧ NumsAt w ca' s.cuts.tail ∧ Chg [] wr wx ∧ Blk wx wr.heap.size #[.int .i64 3, .int .i64 xn, .int .u64 xe, .int .u64 xl, .slice xra xrs.length xrc, .slice xwa xws.length xwc] 66 ∧
          Blk wx (wr.heap.size + 1) #[.int .i64 xn, .int .u64 xe] 78 ∧ Blk wx (wr.heap.size + 1 + 1) #[.int .u64 (s.cuts.headD 0)] 64)
        case first =>
          have hnm := hM.nums
          cases hcu : s.cuts with
          | nil =>
            rw [hcu] at hnm hcs
            go_wp2_with fail
            go_meet
            exact ⟨ca, cc, by rw [hcu]; rfl, by rw [hcu]; exact hcs, by rw [hcu]; exact hnm, hC1, hB1, hB2, by rw [hcu]; exact hB3⟩
          | cons c r =>
            rw [hcu] at hnm hcs
            have hn1 := hnm.chgN (hM.chg.step hC1 (by simp)) (by simp)
            obtain ⟨hw0, hw1, h0 | ⟨cb, co, rfl, hcell⟩⟩ := hn1
            · cases h0
            have hc0 : w1.drew.cell? ⟨cb, co, none⟩ = some (.int .u64 c) := hcell 0 (by simp)
            have hcc1 : 1 ≤ cc := by simp at hcs; omega
            have hz0 : w1.drew.cell? ⟨wr.heap.size + 1 + 1, 0, none⟩ = some (.int .u64 0) := hB3.cell 0 rfl
            have hzf : w1.drew.frozen? ⟨wr.heap.size + 1 + 1, 0, none⟩ = false := hB3.free 0
            have hrl : (r.length : Int) + 1 ≤ (cc : Int) := by simp at hcs; omega
            have HCU := Lib.hid hcu
            clear hcu hw0 hw1 hcell
            have hlr : r.length + 1 ≤ cc := by simp at hcs; omega
            have hnt : if cc = 1 then r = [] else NumsAt w (some ⟨cb, co + 1, none⟩) r := by
              split
              · exact List.eq_nil_of_length_eq_zero (by omega)
              · exact hnm.tail
            have HNT := Lib.hid hnt
            have hcb : cb < w.heap.size := by
              obtain ⟨_, _, h0 | ⟨cb', co', he, hc⟩⟩ := hnm
              · cases h0
              · cases he; exact lt_of_cell (hc 0 (by simp))
            have hsw := hM.chg.size
            have hcne : ¬ cb = wr.heap.size + 1 + 1 := by omega
            have hcne2 : ¬ wr.heap.size + 1 + 1 = cb := by omega
            clear hnt hnm
            go_wp2_with fail
            rotate_left 1
            · exact (‹¬ 0 < (c :: r).length› (by simp)).elim
            by_cases e1 : cc = 1
            · have h0 := HNT.out
              rw [if_pos e1] at h0
              subst e1
              subst h0
              go_region
              all_goals go_wp2_with fail
              all_goals go_meet
              all_goals exact ⟨some ⟨cb, co, none⟩, 0, by rw [HCU.out]; rfl, by rw [HCU.out]; exact Nat.le_refl _, by rw [HCU.out]; exact ⟨by simp, by simp, .inl rfl⟩, (hC1.setCell ⟨wr.heap.size + 1 + 1, 0, none⟩ (.inr (by simp; omega)) (.int .u64 c)).drew, hB1.setOther ⟨wr.heap.size + 1 + 1, 0, none⟩ (by simp; omega) (.int .u64 c), hB2.setOther ⟨wr.heap.size + 1 + 1, 0, none⟩ (by simp) (.int .u64 c), by rw [HCU.out]; exact hB3.set 0 (.int .u64 c)⟩
            · have h0 := HNT.out
              rw [if_neg e1] at h0
              have H0 := Lib.hid h0
              clear h0 HNT
              go_region
              all_goals go_wp2_with fail
              all_goals go_meet
              all_goals exact ⟨some ⟨cb, co + 1, none⟩, cc - 1, by rw [HCU.out]; rfl, by rw [HCU.out]; show r.length ≤ cc - 1; omega, by rw [HCU.out]; exact H0.out, (hC1.setCell ⟨wr.heap.size + 1 + 1, 0, none⟩ (.inr (by simp; omega)) (.int .u64 c)).drew, hB1.setOther ⟨wr.heap.size + 1 + 1, 0, none⟩ (by simp; omega) (.int .u64 c), hB2.setOther ⟨wr.heap.size + 1 + 1, 0, none⟩ (by simp) (.int .u64 c), by rw [HCU.out]; exact hB3.set 0 (.int .u64 c)⟩
        case rest =>
          obtain ⟨ca', cc', rfl, hcs2, hn2, hC2, hE1, hE2, hE3⟩ := hcut
          have hM2 := (hM.chg0 hC2).cutsTo hn2
          have u0 := hE2.cell 0 rfl
          have u1 := hE2.cell 1 rfl
          have u2 := hE3.cell 0 rfl
          have hcw : wfu64 (s.cuts.headD 0) := by
            cases hcu : s.cuts with
            | nil => exact wfu64_of (by simp) (by simp)
            | cons c r => have := hM.nums.1 c (by rw [hcu]; simp); exact this
          generalize s.cuts.headD 0 = cut at hcw u2 hE3 HST
          have hng2 : ng < maxLen := by unfold maxLen; omega
          go_upto_region 20 with (at_mapUpdate; refine wpList_store_W _ rfl _ _ _ rfl (w.heap.size + 1) ng s.gone rfl hM2.gn hng2 xn xe cut rfl rfl hok1 hok2 hcw ?_; intro w3 hW3 ht3)
          have hC3 : Chg [w.heap.size + 1] wc w3 := (Chg.refl _ wc).turned ht3 (by simp)
          have hM3 := hM2.gnTo hW3 hC3
          have hne1 : ¬ wr.heap.size = w.heap.size + 1 := by have := hM.gn.lt; omega
          have hne2 : ¬ wr.heap.size + 1 + 1 = w.heap.size + 1 := by have := hM.gn.lt; omega
          have hE1' := hE1.chg hC3 (by simpa using hne1)
          have hE3' := hE3.chg hC3 (by simpa using hne2)
          have hsz3 := hC3.size
          have hst1 : blkOf a ≠ some wr.heap.size := fun e => by have := hM.stay.lt e; omega
          have hst2 : blkOf a ≠ some (wr.heap.size + 1 + 1) := fun e => by have := hM.stay.lt e; omega
          have hD := deleteEv (hE1'.cell 1 rfl) (hE1'.cell 2 rfl) (hE3'.cell 0 rfl) hM3.stay (by show s.stay.length ≤ 1000000; omega) ⟨hst1, hst2⟩
          have hfl : (s.stay.filter fun x => !gonep xn xe cut x).length ≤ s.stay.length := List.length_filter_le _ _
          have hsub : ∀ y ∈ s.stay.filter (fun x => !gonep xn xe cut x), y.lies w := fun y hy => hM.lies y (List.mem_filter.1 hy).1
          simp only at hD
          generalize (s.stay.filter fun x => !gonep xn xe cut x) = F at hD hfl hsub HST
          have hmf : ∀ (fn : Fn) (first cap : Array Value) (w : World), (Instr.makeFunc fn first cap).run Tryz.prog w = .ok (.func fn first cap) w := fun _ _ _ _ => rfl
          clear hE1 hE2 hE3 hE1' hE3' u0 u1 u2 hM2 hC2
          go_wp2_with fail
          refine hD.mono ?_
          rintro e w4 ⟨rfl, hO4, hC4⟩
          have hM4 := hM3.stayTo hO4 hC4 (.inl rfl) hsub
          have hA := alone_any (hO4.row (by omega)) (fun y hy => (hsub y hy).chgN hM4.chg (by simp)) (by omega) cap
          go_wp2_with fail
          refine hA.mono ?_
          rintro e w5 ⟨⟨bm5, rfl, hbm5, hS5⟩, hb5⟩
          have hM5 := hM4.arrNew hS5 hbm5 ((Chg.refl [] _).ofBelow hb5)
          go_wp2_with fail
          go_roundg (L.length - (k + 1))
          case measure => omega
          case rel => exact ⟨k + 1, 500000000, ng + 1, bm5, cap, cc', a, ca', _, by omega, rfl, HST.out.symm, by go_num, by show _ = Value.slice ca' s.cuts.tail.length cc'; rw [List.length_tail], hcs2, rfl, rfl, rfl, by omega, by omega, by show F.length ≤ k + 1; omega, hM5⟩
      case neg =>
      by_cases q4 : xk = 4
      case pos =>
        subst q4
        have hst : plays L C (k + 1) = { s with ok := s.ok && xrs.all s.f.right } := by
          show pstep (L.take k) (plays L C k) (L.getD k default) = _
          rw [HX.out, ← HS.out]
          unfold pstep
          rw [if_neg q1, if_neg q3, if_pos rfl]
        have HST := Lib.hid hst
        clear hst q1 q3
        have hM1 := (hM.alloc (.cells #[.int .i64 4, .int .i64 xn, .int .u64 xe, .int .u64 xl, .slice xra xrs.length xrc, .slice xwa xws.length xwc] 66)).alloc (.cells #[.int .i64 xn, .int .u64 xe] 78)
        cases hok3 : s.ok
        case false =>
          have HOK := Lib.hid hok3
          clear hok3
          go_wp2_with fail
          go_roundg (L.length - (k + 1))
          case measure => omega
          case rel => exact ⟨k + 1, n, ng, bm, cap, cc, a, ca, _, by omega, rfl, HST.out.symm, by go_num, rfl, hcs, rfl, by show _ = Value.bool (s.ok && xrs.all s.f.right); rw [HOK.out]; rfl, rfl, by omega, by omega, by show s.stay.length ≤ k + 1; omega, hM1.okTo _⟩
        case true =>
          have HOK := Lib.hid hok3
          clear hok3
          have hR := reads_any hM1.arr (hel.1.chgN hM1.chg (by simp)) xrc
          simp only at hR
          obtain ⟨rg, hrg⟩ : ∃ rg, xrs.all s.f.right = rg := ⟨_, rfl⟩
          rw [hrg] at hR
          have HRG := Lib.hid hrg
          clear hrg
          go_wp2_with fail
          refine hR.mono ?_
          rintro e w2 ⟨rfl, hb⟩
          have hM2 := hM1.below hb
          go_wp2_with fail
          go_roundg (L.length - (k + 1))
          case measure => omega
          case rel => exact ⟨k + 1, n, ng, bm, cap, cc, a, ca, _, by omega, rfl, HST.out.symm, by go_num, rfl, hcs, rfl, by show _ = Value.bool (s.ok && xrs.all s.f.right); rw [HOK.out, HRG.out]; rfl, rfl, by omega, by omega, by show s.stay.length ≤ k + 1; omega, hM2.okTo _⟩
      case neg =>
        have hst : plays L C (k + 1) = s := by
          show pstep (L.take k) (plays L C k) (L.getD k default) = _
          rw [HX.out, ← HS.out]
          unfold pstep
          rw [if_neg q1, if_neg q3, if_neg q4]
        have HST := Lib.hid hst
        clear hst
        go_wp2_with fail
        go_roundg (L.length - (k + 1))
        case measure => omega
        case rel => exact ⟨k + 1, n, ng, bm, cap, cc, a, ca, s, by omega, rfl, HST.out.symm, by go_num, rfl, hcs, rfl, rfl, rfl, by omega, by omega, by omega, (hM.alloc _).alloc _⟩

end Go.Proofs.YteokjobkjmibfaaGreat
