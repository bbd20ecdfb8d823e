/-
  A store's twin, with lists of its own: straw.twin, walked. What a store that may be keeps to: the bounds that the chores ask for. No program is walked here. Two heaps are joined: walked.
-/
import Derived.Test.YtpgkhlpepckfgaaXa20
import Derived.Test.YtpgkhlpepckfgaaXa23
import Derived.Test.YtpgkhlpepckfgaaXa25
import Derived.Deep.DeepCutAuto
set_option linter.all false
set_option linter.unusedVariables false
set_option linter.unusedSimpArgs false
section
namespace Go.Proofs.Ytpgkhlpepckfgaa
open Go.RowKit Go.Lib

abbrev emptyCells : Array Value := #[.int .i64 0, .slice none 0 0, .slice none 0 0, .slice none 0 0, .slice none 0 0, .slice none 0 0]
/-- The rows of numbers are made. -/
structure Tw1 (w : World) (s : Store) (X G : Nat) (lx lg : List Value) (W : World) : Prop where
  below : Below w.heap.size w W
  box : W.heap[w.heap.size]? = some (.cells (storeCells s) 43 (0, 0))
  out : W.heap[w.heap.size + 1]? = some (.cells emptyCells 43 (0, 0))
  x : W.heap[X]? = some (.cells lx.toArray 3 (0, 0))
  g : W.heap[G]? = some (.cells lg.toArray 3 (0, 0))
  hx : w.heap.size + 2 ≤ X ∧ X < w.heap.size + 4
  hg : w.heap.size + 2 ≤ G ∧ G < w.heap.size + 4
  ne : X ≠ G
  size : w.heap.size + 4 ≤ W.heap.size
theorem cnt_rep (n : Nat) : (repRow n 0).toArray = cntRow n (fun _ => 0) := repRow_zero n
abbrev WT (w : World) (s : Store) : World := (w.alloc (.cells (storeCells s) 43)).alloc (.cells emptyCells 43)
theorem Tw1.make (w : World) (s : Store) (n m : Nat) (k : Nat) : Tw1 w s (w.heap.size + 2) (w.heap.size + 3) (repRow n 0) (repRow m 0) ((((WT w s).alloc (.cells (cntRow n fun _ => 0) 3)).alloc (.cells (cntRow m fun _ => 0) 3)).drewN k) ∧
    Tw1 w s (w.heap.size + 3) (w.heap.size + 2) (repRow n 0) (repRow m 0) ((((WT w s).alloc (.cells (cntRow m fun _ => 0) 3)).alloc (.cells (cntRow n fun _ => 0) 3)).drewN k) := by
  have hb : ∀ o1 o2 : Obj, Below w.heap.size w ((((WT w s).alloc o1).alloc o2).drewN k) := fun o1 o2 =>
    (((((Below.refl _ w).alloc (Nat.le_refl _) _).alloc (by simp) _).alloc (by simp; omega) _).alloc (by simp; omega) _).trans (below_drewN_ _ _)
  have g0 : ∀ o1 o2 : Obj, ((((WT w s).alloc o1).alloc o2).drewN k).heap[w.heap.size]? = some (.cells (storeCells s) 43 (0, 0)) := fun o1 o2 => heap_old _ _ _ _ (heap_old _ _ _ _ (heap_old _ _ _ _ (heap_new _ _ _ rfl)))
  have g1 : ∀ o1 o2 : Obj, ((((WT w s).alloc o1).alloc o2).drewN k).heap[w.heap.size + 1]? = some (.cells emptyCells 43 (0, 0)) := fun o1 o2 => heap_old _ _ _ _ (heap_old _ _ _ _ (heap_new _ _ _ (by simp)))
  have g2 : ∀ o1 o2 : Obj, ((((WT w s).alloc o1).alloc o2).drewN k).heap[w.heap.size + 2]? = some o1 := fun o1 o2 => heap_old _ _ _ _ (heap_new _ _ _ (by simp))
  have g3 : ∀ o1 o2 : Obj, ((((WT w s).alloc o1).alloc o2).drewN k).heap[w.heap.size + 3]? = some o2 := fun o1 o2 => heap_new _ _ _ (by simp)
  have gz : ∀ o1 o2 : Obj, w.heap.size + 4 ≤ ((((WT w s).alloc o1).alloc o2).drewN k).heap.size := fun o1 o2 => by
    show _ ≤ (((WT w s).alloc o1).alloc o2).heap.size
    simp
  exact ⟨⟨hb _ _, g0 _ _, g1 _ _, by rw [cnt_rep]; exact g2 _ _, by rw [cnt_rep]; exact g3 _ _, ⟨by omega, by omega⟩, ⟨by omega, by omega⟩, by omega, gz _ _⟩,
    ⟨hb _ _, g0 _ _, g1 _ _, by rw [cnt_rep]; exact g3 _ _, by rw [cnt_rep]; exact g2 _ _, ⟨by omega, by omega⟩, ⟨by omega, by omega⟩, by omega, gz _ _⟩⟩
theorem Tw1.setX {w : World} {s : Store} {X G : Nat} {lx lg l : List Value} {W W' : World} (h : Tw1 w s X G lx lg W) (hg : W'.heap[X]? = some (.cells l.toArray 3 (0, 0))) (ho : ∀ k, k ≠ X → W'.heap[k]? = W.heap[k]?) (hb : ∀ B, B ≤ X → Below B W W') : Tw1 w s X G l lg W' := by
  have h1 := h.hx
  exact ⟨h.below.trans (hb _ (by omega)), (ho _ (by omega)).trans h.box, (ho _ (by omega)).trans h.out, hg, (ho _ (Ne.symm h.ne)).trans h.g, h.hx, h.hg, h.ne, Nat.le_trans h.size (hb 0 (Nat.zero_le _)).size⟩
theorem Tw1.setG {w : World} {s : Store} {X G : Nat} {lx lg l : List Value} {W W' : World} (h : Tw1 w s X G lx lg W) (hg : W'.heap[G]? = some (.cells l.toArray 3 (0, 0))) (ho : ∀ k, k ≠ G → W'.heap[k]? = W.heap[k]?) (hb : ∀ B, B ≤ G → Below B W W') : Tw1 w s X G lx l W' := by
  have h1 := h.hg
  exact ⟨h.below.trans (hb _ (by omega)), (ho _ (by omega)).trans h.box, (ho _ (by omega)).trans h.out, (ho _ h.ne).trans h.x, hg, h.hx, h.hg, h.ne, Nat.le_trans h.size (hb 0 (Nat.zero_le _)).size⟩
theorem Tw1.later {w : World} {s : Store} {X G : Nat} {lx lg : List Value} {W W' : World} (h : Tw1 w s X G lx lg W) (hb : Below W.heap.size W W') : Tw1 w s X G lx lg W' := by
  have h1 := h.hg
  have h2 := h.hx
  have h3 := h.size
  exact ⟨h.below.trans (hb.mono h.below.size), (hb.block _ (by omega)).trans h.box, (hb.block _ (by omega)).trans h.out, (hb.block _ (by omega)).trans h.x, (hb.block _ (by omega)).trans h.g, h.hx, h.hg, h.ne, Nat.le_trans h.size hb.size⟩

/-- The twin under way. -/
structure TwJ (w : World) (s t : Store) (W : World) : Prop where
  rows : Rows (w.heap.size + 2) (some (w.heap.size + 1)) t W
  box : W.heap[w.heap.size]? = some (.cells (storeCells t) 43 (0, 0))
  out : W.heap[w.heap.size + 1]? = some (.cells emptyCells 43 (0, 0))
  below : Below w.heap.size w W
  same : SameC s t
  mild : ∀ h ∈ t.heaps, h.parts.length ≤ 1000000
theorem TwJ.later {w : World} {s t : Store} {W W' : World} (h : TwJ w s t W) (hb : Below W.heap.size W W') (h1 : w.heap.size + 1 < W.heap.size) : TwJ w s t W' :=
  ⟨h.rows.later hb, (hb.block _ (by omega)).trans h.box, (hb.block _ h1).trans h.out, h.below.trans (hb.mono h.below.size), h.same, h.mild⟩
theorem TwJ.size {w : World} {s t : Store} {W : World} (h : TwJ w s t W) : w.heap.size + 1 < W.heap.size := (Array.getElem?_eq_some_iff.1 h.out).1
/-- A heap has parts of its own. -/
theorem TwJ.part {w : World} {s t : Store} {W W' : World} (h : TwJ w s t W) (hb : Below W.heap.size W W') {k g : Nat} (hk : k < t.heaps.length) (hg : t.ha = some ⟨g, 0, none⟩) {A : Option Addr} {c : Nat} (hr : PRow W' W.heap.size (.slice A t.heaps[k].parts.length c) t.heaps[k].parts) :
    TwJ w s { t with heaps := t.heaps.set k { t.heaps[k] with pa := A, pc := c } } (W'.setCell ⟨g, k * 7 + 3, none⟩ (.slice A t.heaps[k].parts.length c)) := by
  have h1 := h.later hb h.size
  have hsz := h.size
  have hgl := h.rows.heapsLt (k := g) (by rw [hg]; rfl)
  have hm := h.mild _ (List.getElem_mem hk)
  have hne : ∀ k, k < w.heap.size + 2 → (W'.setCell ⟨g, k * 7 + 3, none⟩ (.slice A t.heaps[k]!.parts.length c)).heap[k]? = W'.heap[k]? := fun k hk => Below.heap_setCell _ _ _ _ (by show k ≠ g; omega)
  refine ⟨h1.rows.heapTo (j := 3) hg hk (by decide) rfl ⟨⟨(show RdParts W' A t.heaps[k].parts from PRow.rd hr (by omega)), (h1.rows.parts _ (List.getElem_mem hk)).2⟩, fun x hx e => ?_⟩, ?_, ?_, ?_, ?_, ?_⟩
  · have := (hr.lt x (by rw [ownBlock_slice]; exact e)).1
    have h2 := h.rows.newOff this
    exact ⟨h2.1, h2.2.1, h2.2.2.1, h2.2.2.2⟩
  · refine (Below.heap_setCell _ _ _ _ (by show w.heap.size ≠ g; omega)).trans (h1.box.trans ?_)
    simp [storeCells]
  · exact (Below.heap_setCell _ _ _ _ (by show w.heap.size + 1 ≠ g; omega)).trans h1.out
  · exact h1.below.setCell (p := ⟨g, k * 7 + 3, none⟩) (by show w.heap.size ≤ g; omega) _
  · refine ⟨h.same.year, h.same.last, h.same.given, h.same.heaps.trans ?_, h.same.used, h.same.waste⟩
    apply List.ext_getElem?
    intro i
    simp only [List.getElem?_map, List.getElem?_set]
    split
    · subst i
      simp [hk, bareH]
    · rfl
  · intro y hy
    rcases List.mem_or_eq_of_mem_set hy with h2 | h2
    · exact h.mild y h2
    · rw [h2]; exact hm

/-- Small enough to be copied. -/
structure MildS (s : Store) : Prop where
  last : s.last.length ≤ 1000
  given : s.given.length ≤ 1000
  heaps : s.heaps.length ≤ 1000
  used : s.used.length ≤ 1000000
  waste : s.waste.length ≤ 1000000
  parts : ∀ h ∈ s.heaps, h.parts.length ≤ 1000000
theorem TwJ.begin {w : World} {s : Store} (hs : RdStore w s) (hm : MildS s) {X G : Nat} {wq w3 w4 w5 w10 : World} {A1 A2 A3 : Option Addr} {c1 c2 c3 : Nat} {lx lg : List Value} (hq : Tw1 w s X G lx lg wq)
    (h5 : Tw1 w s X G (s.last.map (Value.int .i64)) (s.given.map (Value.int .i64)) w5) (hr3 : PRow w3 wq.heap.size (.slice A1 s.used.length c1) s.used) (hb3 : Below wq.heap.size wq w3) (hr4 : PRow w4 w3.heap.size (.slice A2 s.waste.length c2) s.waste) (hb4 : Below w3.heap.size w3 w4)
    (hr5 : w5.ownsRow w4.heap.size 77 7 (.slice A3 s.heaps.length c3) s.heaps.length (s.heaps.flatMap encHeap)) (hb5 : Below w4.heap.size w4 w5) (ho : ∀ k, k ≠ w.heap.size → w10.heap[k]? = w5.heap[k]?) (hb10 : Below w.heap.size w5 w10)
    (hbx : w10.heap[w.heap.size]? = some (.cells #[.int .i64 s.year, .slice (some ⟨X, 0, none⟩) s.last.length s.last.length, .slice (some ⟨G, 0, none⟩) s.given.length s.given.length, .slice A3 s.heaps.length c3, .slice A1 s.used.length c1, .slice A2 s.waste.length c2] 43 (0, 0))) :
    TwJ w s { s with la := some ⟨X, 0, none⟩, lc := s.last.length, ga := some ⟨G, 0, none⟩, gc := s.given.length, ha := A3, hc := c3, ua := A1, uc := c1, wa := A2, wc := c2 } w10 := by
  have q1 := hq.size
  have q2 := h5.hx
  have q3 := h5.hg
  have z3 := hb3.size
  have z4 := hb4.size
  have z5 := hb5.size
  have n5 := h5.size
  have n10 := hb10.size
  have kk : ∀ k, w.heap.size + 2 ≤ k → w10.heap[k]? = w5.heap[k]? := fun k hk => ho k (by omega)
  have hu : RdParts w5 A1 s.used := ((PRow.rd hr3 (by have := hm.used; omega)).below hb4).below hb5
  have hw : RdParts w5 A2 s.waste := (PRow.rd hr4 (by have := hm.waste; omega)).below hb5
  have hub : ∀ k, blk A1 = some k → wq.heap.size ≤ k ∧ k < w3.heap.size := fun k e => hr3.lt k (by rw [ownBlock_slice]; exact e)
  have hwb : ∀ k, blk A2 = some k → w3.heap.size ≤ k ∧ k < w4.heap.size := fun k e => hr4.lt k (by rw [ownBlock_slice]; exact e)
  have hhb : ∀ k, blk A3 = some k → w4.heap.size ≤ k ∧ k < w5.heap.size := fun k e => hr5.lt k (by rw [ownBlock_slice]; exact e)
  refine ⟨Rows.start (p1 := w.heap.size + 2) (p3 := wq.heap.size) (p5 := w4.heap.size) (slRow_block ((ho X (by omega)).trans h5.x) (by omega) (Nat.le_trans hm.last (by decide))) (slRow_block ((ho G (by omega)).trans h5.g) (by omega) (Nat.le_trans hm.given (by decide)))
      (ownsRow_raise (ownsRow_same hr5 (fun k e => by rw [ownBlock_slice] at e; exact kk k (by have := hhb k e; omega))) (by omega)) (hu.keep (fun k _ e => kk k (by have := hub k e; omega))) (hw.keep (fun k _ e => kk k (by have := hwb k e; omega)))
      (fun h hh => ⟨((hs.heaps.2 h hh).1.below h5.below).keep (fun k h1 e => ho k (by have := (hs.heaps.2 h hh).1.lt h1 e; omega)), (hs.heaps.2 h hh).2⟩) ⟨hm.last, hm.given, hm.heaps⟩ (by omega) (by omega)
      (fun k e => ?_) (fun k e => ?_) (fun k e => ?_) (fun k e => ?_) (fun k e => ?_) (fun h hh k h1 e => ?_) (fun k e => ?_), hbx, (ho _ (by omega)).trans h5.out, ?_, ⟨rfl, rfl, rfl, rfl, rfl, rfl⟩, hm.parts⟩
  · have : X = k := by simpa [blk] using e
    subst this
    refine ⟨by omega, by omega, fun e' => h5.ne ?_⟩
    have : G = X := by simpa [blk] using e'
    exact this.symm
  · have : G = k := by simpa [blk] using e
    omega
  · have := hub k e; omega
  · have := hwb k e; omega
  · exact (hhb k e).1
  · have := (hs.heaps.2 h hh).1.lt h1 e
    exact ⟨by omega, fun e' => by simp at e'; omega⟩
  · simp at e; omega
  · exact h5.below.trans hb10
theorem cells6 {w : World} {b : Nat} {v0 v1 v2 v3 v4 v5 : Value} {t : TypeId} (h : w.heap[b]? = some (.cells #[v0, v1, v2, v3, v4, v5] t (0, 0))) : w.cell? ⟨b, 0, none⟩ = some v0 ∧ w.cell? ⟨b, 1, none⟩ = some v1 ∧ w.cell? ⟨b, 2, none⟩ = some v2 ∧ w.cell? ⟨b, 3, none⟩ = some v3 ∧ w.cell? ⟨b, 4, none⟩ = some v4 ∧ w.cell? ⟨b, 5, none⟩ = some v5 := by
  refine ⟨?_, ?_, ?_, ?_, ?_, ?_⟩ <;> simp [World.cell?, h]
def Box3 (b : Nat) (cs : Array Value) (W : World) : Prop := W.heap[b]? = some (.cells cs 43 (0, 0))
def TwinOut (s : Store) (w : World) (e : Ending) (w' : World) : Prop := ∃ t, e = .returned (storeVal t) ∧ SameC s t ∧ Rows w.heap.size none t w' ∧ Below w.heap.size w w'
set_option maxHeartbeats 4000000 in
set_option maxRecDepth 100000 in
theorem twin_any (s : Store) (w : World) (hs : RdStore w s) (hm : MildS s) : Calls Try.prog 76 #[storeVal s] w (TwinOut s w) := by
  obtain ⟨W0, hW0⟩ : ∃ W0, W0 = (w.alloc (.cells (storeCells s) 43)).alloc (.cells #[.int .i64 0, .slice none 0 0, .slice none 0 0, .slice none 0 0, .slice none 0 0, .slice none 0 0] 43) := ⟨_, rfl⟩
  have hW0' : WT w s = W0 := hW0.symm
  have hb0 : Below w.heap.size w W0 := by rw [hW0]; exact ((Below.refl _ w).alloc (Nat.le_refl _) _).alloc (by simp) _
  have hx0 : W0.heap[w.heap.size]? = some (.cells (storeCells s) 43 (0, 0)) := by rw [hW0]; exact heap_old _ _ _ _ (heap_new _ _ _ rfl)
  have hz0 : w.heap.size < W0.heap.size := (Array.getElem?_eq_some_iff.1 hx0).1
  obtain ⟨k0, k1, k2, k3, k4, k5⟩ := six_cells hx0
  have hmk1 : ∀ W, (Instr.makeSlice 29 (.int .i64 (s.last.length : Int)) (.int .i64 (s.last.length : Int))).run Try.prog W = .ok (.slice (some ⟨W.heap.size, 0, none⟩) s.last.length s.last.length) (W.alloc (.cells (cntRow s.last.length fun _ => 0) 3)) := fun W => make_cnt s.last.length (by have := hm.last; omega) W
  have hmk2 : ∀ W, (Instr.makeSlice 29 (.int .i64 (s.given.length : Int)) (.int .i64 (s.given.length : Int))).run Try.prog W = .ok (.slice (some ⟨W.heap.size, 0, none⟩) s.given.length s.given.length) (W.alloc (.cells (cntRow s.given.length fun _ => 0) 3)) := fun W => make_cnt s.given.length (by have := hm.given; omega) W
  have hmake := fun k => Lib.hid (Tw1.make w s s.last.length s.given.length k)
  rw [hW0'] at hmake
  clear hW0'
  replace hb0 := Lib.hid hb0
  replace hx0 := Lib.hid hx0
  have hz1 : Hid (W0.heap.size = w.heap.size + 2) := by unfold Hid; rw [hW0]; simp
  replace hm := Lib.hid hm
  go_enter Try.func76, Try.ntmps76
  go_upto_region 1 with fail
  rw [← hW0]
  replace hW0 := Lib.hid hW0
  go_cut [3, 4] (fun vx vg wx => ∃ X G : Nat, vx = .slice (some ⟨X, 0, none⟩) s.last.length s.last.length ∧ vg = .slice (some ⟨G, 0, none⟩) s.given.length s.given.length ∧ Hid (Tw1 w s X G (repRow s.last.length 0) (repRow s.given.length 0) wx))
  case first =>
    go_region
    all_goals
      go_wp2_with fail
      go_meet
      simp only [hz1.out]
      first
        | exact ⟨_, _, rfl, rfl, (hmake 1).out.1⟩
        | exact ⟨_, _, rfl, rfl, (hmake 1).out.2⟩
  case rest =>
    obtain ⟨X, G, rfl, rfl, hL⟩ := hcut
    clear hmake hmk1 hmk2 k0 k1 k2 k3 k4 k5
    obtain ⟨k0, k1, k2, k3, k4, k5⟩ := six_cells hL.out.box
    have hl1 := Lib.hid (hs.last.below hL.out.below)
    go_upto_region 3 with (refine wp_copy_ints rfl (.tmp 14) (.tmp 16) rfl X s.la s.last s.lc rfl rfl hL.out.x hl1.out ?_; intro w1 p1 p2 p3; have hL1 := Lib.hid (hL.out.setX p1 p2 p3); clear p1 p2 p3)
    clear k0 k1 k2 k3 k4 k5
    obtain ⟨k0, k1, k2, k3, k4, k5⟩ := six_cells hL1.out.box
    have hl2 := Lib.hid (hs.given.below hL1.out.below)
    go_upto_region 4 with (refine wp_copy_ints rfl (.tmp 18) (.tmp 20) rfl G s.ga s.given s.gc rfl rfl hL1.out.g hl2.out ?_; intro w2 p1 p2 p3; have hL2 := Lib.hid (hL1.out.setG p1 p2 p3); clear p1 p2 p3)
    clear k0 k1 k2 k3 k4 k5
    have hkq : Hid (∀ W, Box3 w.heap.size (storeCells s) W → W.cell? ⟨w.heap.size, 3, none⟩ = some (.slice s.ha s.heaps.length s.hc) ∧ W.cell? ⟨w.heap.size, 4, none⟩ = some (.slice s.ua s.used.length s.uc) ∧ W.cell? ⟨w.heap.size, 5, none⟩ = some (.slice s.wa s.waste.length s.wc)) := fun W h => ⟨(six_cells h).2.2.2.1, (six_cells h).2.2.2.2.1, (six_cells h).2.2.2.2.2⟩
    have hd2 := Lib.hid (hL2.out.later (below_drewN_ w2 1))
    obtain ⟨wq, hwq⟩ : ∃ x, x = w2.drew := ⟨_, rfl⟩
    have hdq : Hid (Tw1 w s X G (List.map (Value.int IntKind.i64) s.last) (List.map (Value.int IntKind.i64) s.given) wq) := by rw [hwq]; exact hd2.out
    have hc1 : Hid (Calls Try.prog 107 #[.slice s.ua s.used.length s.uc] wq (CloneOut s.used wq)) := cloneP_any s.ua s.uc s.used wq (hs.used.below hdq.out.below) hm.out.used
    refine wp_region_seqs (fun W => Box3 w.heap.size (storeCells s) W) [(0, 0), (1, 0), (2, 0), (3, 1), (5, 0), (6, 1), (8, 0), (9, 1), (11, 0), (4, 2), (7, 2), (10, 2), (12, 2), (13, 0), (14, 2), (15, 0), (16, 2), (17, 0), (18, 2), (19, 0), (20, 2)] [12, 14, 16, 18, 20] (by kernel_rfl) (by kernel_rfl) hd2.out.box ?_
    rw [← hwq]
    replace hwq := Lib.hid hwq
    repeat
      ((first | (refine wpSeqs_pure (v := ?_) rfl (by rfl) ?_ (fun _ _ _ h => h) ?_) | (refine wpSeqs_take (v := ?_) rfl (by rfl) ?_ (fun _ _ _ h => h) ?_))
       rotate_left
       (focus (intro w'; (try (intro hSw; obtain ⟨k3, k4, k5⟩ := hkq.out _ hSw; clear hSw)); try simp only [List.getElem_toArray, List.getElem_cons_zero, List.getElem_cons_succ]; go_simp; try with_reducible rfl))
       simp only [List.getElem_toArray, List.getElem_cons_zero, List.getElem_cons_succ, Act.put, List.setIfInBounds_toArray, List.set_cons_zero, List.set_cons_succ])
    refine wpSeqs_do rfl (by rfl) ?_
    simp only [List.getElem_toArray, List.getElem_cons_zero, List.getElem_cons_succ]
    go_simp
    go_at_call 107
    (with_reducible refine hc1.out.mono ?_)
    rintro e w3 ⟨A1, c1, rfl, hr3, hb3⟩
    have hd3 := Lib.hid (hdq.out.later hb3)
    have hc2 : Hid (Calls Try.prog 107 #[.slice s.wa s.waste.length s.wc] w3 (CloneOut s.waste w3)) := cloneP_any s.wa s.wc s.waste w3 (hs.waste.below hd3.out.below) hm.out.waste
    replace hr3 := Lib.hid hr3
    replace hb3 := Lib.hid hb3
    refine ⟨fun _ => hd3.out.box, ?_⟩
    refine wpSeqs_do rfl (by rfl) ?_
    simp only [List.getElem_toArray, List.getElem_cons_zero, List.getElem_cons_succ]
    go_simp
    go_at_call 107
    (with_reducible refine hc2.out.mono ?_)
    rintro e w4 ⟨A2, c2, rfl, hr4, hb4⟩
    have hd4 := Lib.hid (hd3.out.later hb4)
    have hc3 : Hid (Calls Try.prog 108 #[.slice s.ha s.heaps.length s.hc] w4 (CloneHOut s.heaps w4)) := cloneH_any s.ha s.hc s.heaps w4 (hs.heaps.below hd4.out.below) (by have := hm.out.heaps; omega)
    replace hr4 := Lib.hid hr4
    replace hb4 := Lib.hid hb4
    refine ⟨fun _ => hd4.out.box, ?_⟩
    refine wpSeqs_do rfl (by rfl) ?_
    simp only [List.getElem_toArray, List.getElem_cons_zero, List.getElem_cons_succ]
    go_simp
    go_at_call 108
    (with_reducible refine hc3.out.mono ?_)
    rintro e w5 ⟨A3, c3, rfl, hr5, hb5⟩
    have hd5 := Lib.hid (hd4.out.later hb5)
    replace hr5 := Lib.hid hr5
    replace hb5 := Lib.hid hb5
    refine ⟨fun _ => hd5.out.box, ?_⟩
    obtain ⟨z0, z1, z2, z3, z4, z5⟩ := six_cells hd5.out.box
    have hfz : ∀ (W : World) (cs : Array Value), W.heap[w.heap.size]? = some (.cells cs 43 (0, 0)) → ∀ j, W.frozen? ⟨w.heap.size, j, none⟩ = false := fun W cs h j => frozen_of_row W _ j _ _ h
    have f1 := hfz _ _ hd5.out.box 1
    refine wpSeqs_do rfl (by rfl) ?_
    go_simp
    obtain ⟨w6, hww6⟩ : ∃ x, x = w5.setCell ⟨w.heap.size, 1, none⟩ (.slice (some ⟨X, 0, none⟩) s.last.length s.last.length) := ⟨_, rfl⟩
    rw [← hww6]
    have bw6 : w6.heap[w.heap.size]? = some (.cells #[.int .i64 s.year, .slice (some ⟨X, 0, none⟩) s.last.length s.last.length, .slice s.ga s.given.length s.gc, .slice s.ha s.heaps.length s.hc, .slice s.ua s.used.length s.uc, .slice s.wa s.waste.length s.wc] 43 (0, 0)) := by rw [hww6]; exact set_cells hd5.out.box _
    have ow6 : ∀ k, k ≠ w.heap.size → w6.heap[k]? = w5.heap[k]? := fun k hk => by rw [hww6]; exact (Below.heap_setCell _ _ _ _ hk).trans (rfl)
    have sw6 : Below w.heap.size w5 w6 := by rw [hww6]; exact (Below.refl _ _).setCell (p := ⟨w.heap.size, 1, none⟩) (Nat.le_refl _) _
    clear z0 z1 z2 z3 z4 z5 f1 hww6
    obtain ⟨z0, z1, z2, z3, z4, z5⟩ := cells6 bw6
    have f1 := hfz _ _ bw6 2
    refine wpSeqs_pure (v := ?_) rfl (by rfl) ?_ (fun _ _ _ h => h) ?_
    rotate_left
    focus (intro w'; (try simp only [List.getElem_toArray, List.getElem_cons_zero, List.getElem_cons_succ]); go_simp; try with_reducible rfl)
    simp only [List.getElem_toArray, List.getElem_cons_zero, List.getElem_cons_succ, Act.put, List.setIfInBounds_toArray, List.set_cons_zero, List.set_cons_succ]
    refine wpSeqs_do rfl (by rfl) ?_
    go_simp
    obtain ⟨w7, hww7⟩ : ∃ x, x = w6.setCell ⟨w.heap.size, 2, none⟩ (.slice (some ⟨G, 0, none⟩) s.given.length s.given.length) := ⟨_, rfl⟩
    rw [← hww7]
    have bw7 : w7.heap[w.heap.size]? = some (.cells #[.int .i64 s.year, .slice (some ⟨X, 0, none⟩) s.last.length s.last.length, .slice (some ⟨G, 0, none⟩) s.given.length s.given.length, .slice s.ha s.heaps.length s.hc, .slice s.ua s.used.length s.uc, .slice s.wa s.waste.length s.wc] 43 (0, 0)) := by rw [hww7]; exact set_cells bw6 _
    have ow7 : ∀ k, k ≠ w.heap.size → w7.heap[k]? = w5.heap[k]? := fun k hk => by rw [hww7]; exact (Below.heap_setCell _ _ _ _ hk).trans (ow6 k hk)
    have sw7 : Below w.heap.size w5 w7 := by rw [hww7]; exact sw6.setCell (p := ⟨w.heap.size, 2, none⟩) (Nat.le_refl _) _
    clear z0 z1 z2 z3 z4 z5 f1 hww7 ow6 sw6 bw6
    obtain ⟨z0, z1, z2, z3, z4, z5⟩ := cells6 bw7
    have f1 := hfz _ _ bw7 4
    refine wpSeqs_pure (v := ?_) rfl (by rfl) ?_ (fun _ _ _ h => h) ?_
    rotate_left
    focus (intro w'; (try simp only [List.getElem_toArray, List.getElem_cons_zero, List.getElem_cons_succ]); go_simp; try with_reducible rfl)
    simp only [List.getElem_toArray, List.getElem_cons_zero, List.getElem_cons_succ, Act.put, List.setIfInBounds_toArray, List.set_cons_zero, List.set_cons_succ]
    refine wpSeqs_do rfl (by rfl) ?_
    go_simp
    obtain ⟨w8, hww8⟩ : ∃ x, x = w7.setCell ⟨w.heap.size, 4, none⟩ (.slice A1 s.used.length c1) := ⟨_, rfl⟩
    rw [← hww8]
    have bw8 : w8.heap[w.heap.size]? = some (.cells #[.int .i64 s.year, .slice (some ⟨X, 0, none⟩) s.last.length s.last.length, .slice (some ⟨G, 0, none⟩) s.given.length s.given.length, .slice s.ha s.heaps.length s.hc, .slice A1 s.used.length c1, .slice s.wa s.waste.length s.wc] 43 (0, 0)) := by rw [hww8]; exact set_cells bw7 _
    have ow8 : ∀ k, k ≠ w.heap.size → w8.heap[k]? = w5.heap[k]? := fun k hk => by rw [hww8]; exact (Below.heap_setCell _ _ _ _ hk).trans (ow7 k hk)
    have sw8 : Below w.heap.size w5 w8 := by rw [hww8]; exact sw7.setCell (p := ⟨w.heap.size, 4, none⟩) (Nat.le_refl _) _
    clear z0 z1 z2 z3 z4 z5 f1 hww8 ow7 sw7 bw7
    obtain ⟨z0, z1, z2, z3, z4, z5⟩ := cells6 bw8
    have f1 := hfz _ _ bw8 5
    refine wpSeqs_pure (v := ?_) rfl (by rfl) ?_ (fun _ _ _ h => h) ?_
    rotate_left
    focus (intro w'; (try simp only [List.getElem_toArray, List.getElem_cons_zero, List.getElem_cons_succ]); go_simp; try with_reducible rfl)
    simp only [List.getElem_toArray, List.getElem_cons_zero, List.getElem_cons_succ, Act.put, List.setIfInBounds_toArray, List.set_cons_zero, List.set_cons_succ]
    refine wpSeqs_do rfl (by rfl) ?_
    go_simp
    obtain ⟨w9, hww9⟩ : ∃ x, x = w8.setCell ⟨w.heap.size, 5, none⟩ (.slice A2 s.waste.length c2) := ⟨_, rfl⟩
    rw [← hww9]
    have bw9 : w9.heap[w.heap.size]? = some (.cells #[.int .i64 s.year, .slice (some ⟨X, 0, none⟩) s.last.length s.last.length, .slice (some ⟨G, 0, none⟩) s.given.length s.given.length, .slice s.ha s.heaps.length s.hc, .slice A1 s.used.length c1, .slice A2 s.waste.length c2] 43 (0, 0)) := by rw [hww9]; exact set_cells bw8 _
    have ow9 : ∀ k, k ≠ w.heap.size → w9.heap[k]? = w5.heap[k]? := fun k hk => by rw [hww9]; exact (Below.heap_setCell _ _ _ _ hk).trans (ow8 k hk)
    have sw9 : Below w.heap.size w5 w9 := by rw [hww9]; exact sw8.setCell (p := ⟨w.heap.size, 5, none⟩) (Nat.le_refl _) _
    clear z0 z1 z2 z3 z4 z5 f1 hww9 ow8 sw8 bw8
    obtain ⟨z0, z1, z2, z3, z4, z5⟩ := cells6 bw9
    have f1 := hfz _ _ bw9 3
    refine wpSeqs_pure (v := ?_) rfl (by rfl) ?_ (fun _ _ _ h => h) ?_
    rotate_left
    focus (intro w'; (try simp only [List.getElem_toArray, List.getElem_cons_zero, List.getElem_cons_succ]); go_simp; try with_reducible rfl)
    simp only [List.getElem_toArray, List.getElem_cons_zero, List.getElem_cons_succ, Act.put, List.setIfInBounds_toArray, List.set_cons_zero, List.set_cons_succ]
    refine wpSeqs_do rfl (by rfl) ?_
    go_simp
    obtain ⟨w10, hww10⟩ : ∃ x, x = w9.setCell ⟨w.heap.size, 3, none⟩ (.slice A3 s.heaps.length c3) := ⟨_, rfl⟩
    rw [← hww10]
    have bw10 : w10.heap[w.heap.size]? = some (.cells #[.int .i64 s.year, .slice (some ⟨X, 0, none⟩) s.last.length s.last.length, .slice (some ⟨G, 0, none⟩) s.given.length s.given.length, .slice A3 s.heaps.length c3, .slice A1 s.used.length c1, .slice A2 s.waste.length c2] 43 (0, 0)) := by rw [hww10]; exact set_cells bw9 _
    have ow10 : ∀ k, k ≠ w.heap.size → w10.heap[k]? = w5.heap[k]? := fun k hk => by rw [hww10]; exact (Below.heap_setCell _ _ _ _ hk).trans (ow9 k hk)
    have sw10 : Below w.heap.size w5 w10 := by rw [hww10]; exact sw9.setCell (p := ⟨w.heap.size, 3, none⟩) (Nat.le_refl _) _
    clear z0 z1 z2 z3 z4 z5 f1 hww10 ow9 sw9 bw9
    unfold wpSeqs
    replace ow10 := Lib.hid ow10
    replace sw10 := Lib.hid sw10
    replace bw10 := Lib.hid bw10
    have hJ := Lib.hid (TwJ.begin hs hm.out hdq.out hd5.out hr3.out hb3.out hr4.out hb4.out hr5.out hb5.out ow10.out sw10.out bw10.out)
    clear ow10 sw10 hr3 hb3 hr4 hb4 hr5 hb5 hd5 hd4 hd3 hc1 hc2 hc3 hfz
    obtain ⟨t, ht⟩ : ∃ t, t = ({ s with la := some ⟨X, 0, none⟩, lc := s.last.length, ga := some ⟨G, 0, none⟩, gc := s.given.length, ha := A3, hc := c3, ua := A1, uc := c1, wa := A2, wc := c2 } : Store) := ⟨_, rfl⟩
    rw [← ht] at hJ
    have hlt : t.heaps.length = s.heaps.length := by rw [ht]
    obtain ⟨z0, z1, z2, z3, z4, z5⟩ := six_cells hJ.out.box
    rw [hlt] at z3
    replace hlt := Lib.hid hlt
    replace ht := Lib.hid ht
    go_wp2_with fail
    clear z0 z1 z2 z3 z4 z5
    go_loopw [41] (fun i wr => ∃ (k : Nat) (t : Store), i = .int .i64 k ∧ k ≤ s.heaps.length ∧ Hid (TwJ w s t wr)) (fun i _ => s.heaps.length - (intOf i).toNat)
    case atStart => exact ⟨0, t, rfl, Nat.zero_le _, hJ⟩
    case round =>
      obtain ⟨k, t, rfl, hk, hR⟩ := hrel
      obtain ⟨z0, z1, z2, z3, z4, z5⟩ := six_cells hR.out.box
      have hlen := hR.out.same.len
      by_cases hlt : k < s.heaps.length
      · have hk2 : k < t.heaps.length := by omega
        obtain ⟨g, hg, hcell, hfr⟩ := hR.out.rows.heapAt hk2
        have hg3 : wr.cell? ⟨g, k * 7 + 3, none⟩ = some (.slice t.heaps[k].pa t.heaps[k].parts.length t.heaps[k].pc) := hcell 3 _ rfl
        have hgl := hR.out.rows.heapsLt (k := g) (by rw [hg]; rfl)
        have hg2 : Hid (t.ha = some ⟨g, 0, none⟩) := hg
        rw [hg] at z3
        obtain ⟨PA, hPA⟩ : ∃ x, x = t.heaps[k].pa := ⟨_, rfl⟩
        obtain ⟨PC, hPC⟩ : ∃ x, x = t.heaps[k].pc := ⟨_, rfl⟩
        obtain ⟨PL, hPL⟩ : ∃ x, x = t.heaps[k].parts := ⟨_, rfl⟩
        rw [← hPA, ← hPC, ← hPL] at hg3
        obtain ⟨L, hL9⟩ : ∃ x, x = t.heaps.length := ⟨_, rfl⟩
        rw [← hL9] at z3 hk2
        have hkq2 : Hid (∀ W : World, (W.cell? ⟨w.heap.size, 3, none⟩ = some (.slice (some ⟨g, 0, none⟩) L t.hc) ∧ W.cell? ⟨g, k * 7 + 3, none⟩ = some (.slice PA PL.length PC)) → W.cell? ⟨w.heap.size, 3, none⟩ = some (.slice (some ⟨g, 0, none⟩) L t.hc) ∧ W.cell? ⟨g, k * 7 + 3, none⟩ = some (.slice PA PL.length PC)) := fun W h => h
        have hf2 : Hid (∀ j, wr.frozen? ⟨g, j, none⟩ = false) := hfr
        replace hPA := Lib.hid hPA
        replace hPC := Lib.hid hPC
        replace hPL := Lib.hid hPL
        replace hL9 := Lib.hid hL9
        clear hcell hg hfr hlen
        go_upto_region 8 with fail
        refine wp_region_seqs (fun W : World => W.cell? ⟨w.heap.size, 3, none⟩ = some (.slice (some ⟨g, 0, none⟩) L t.hc) ∧ W.cell? ⟨g, k * 7 + 3, none⟩ = some (.slice PA PL.length PC)) [(0, 0), (1, 1), (2, 0), (3, 0), (4, 1), (5, 0), (6, 0), (7, 0), (8, 1), (9, 2), (10, 0), (11, 0), (12, 2)] [12] (by kernel_rfl) (by kernel_rfl) ⟨z3, hg3⟩ ?_
        obtain ⟨wq, hwq⟩ : ∃ x, x = wr.drew := ⟨_, rfl⟩
        rw [← hwq]
        have hRq : Hid (TwJ w s t wq) := by rw [hwq]; exact hR.out.later (below_drewN_ wr 1) hR.out.size
        have hS0 : wq.cell? ⟨w.heap.size, 3, none⟩ = some (.slice (some ⟨g, 0, none⟩) L t.hc) ∧ wq.cell? ⟨g, k * 7 + 3, none⟩ = some (.slice PA PL.length PC) := by rw [hwq]; exact ⟨z3, hg3⟩
        replace hwq := Lib.hid hwq
        repeat
          ((first | (refine wpSeqs_pure (v := ?_) rfl (by rfl) ?_ (fun _ _ _ h => h) ?_) | (refine wpSeqs_take (v := ?_) rfl (by rfl) ?_ (fun _ _ _ h => h) ?_))
           rotate_left
           (focus (intro w'; (try (intro hSw; obtain ⟨k3, k4⟩ := hkq2.out _ hSw; clear hSw)); try simp only [List.getElem_toArray, List.getElem_cons_zero, List.getElem_cons_succ]; go_simp; try with_reducible rfl))
           simp only [List.getElem_toArray, List.getElem_cons_zero, List.getElem_cons_succ, Act.put, List.setIfInBounds_toArray, List.set_cons_zero, List.set_cons_succ])
        have hcp : Hid (Calls Try.prog 107 #[.slice PA PL.length PC] wq (CloneOut PL wq)) := by
          have h1 := (hRq.out.rows.parts _ (List.getElem_mem (hL9.out ▸ hk2))).1
          rw [← hPA.out, ← hPL.out] at h1
          exact cloneP_any PA PC PL wq h1 (by rw [hPL.out]; exact hRq.out.mild _ (List.getElem_mem _))
        refine wpSeqs_do rfl (by rfl) ?_
        simp only [List.getElem_toArray, List.getElem_cons_zero, List.getElem_cons_succ]
        go_simp
        go_at_call 107
        (with_reducible refine hcp.out.mono ?_)
        rintro e w3 ⟨A1, c1, rfl, hr3, hb3⟩
        have hgq : g < wq.heap.size := by rw [hwq.out]; exact hgl.2
        have hbq : w.heap.size < wq.heap.size := by have := hRq.out.size; omega
        have f1 : w3.frozen? ⟨g, k * 7 + 3, none⟩ = false := by
          rw [show w3.frozen? ⟨g, k * 7 + 3, none⟩ = wq.frozen? ⟨g, k * 7 + 3, none⟩ from by simp only [World.frozen?, hb3.block g hgq]]
          rw [hwq.out]; exact hf2.out _
        have z3' : w3.cell? ⟨w.heap.size, 3, none⟩ = some (.slice (some ⟨g, 0, none⟩) L t.hc) := (hb3.cell hbq).trans hS0.1
        have hg3' : w3.cell? ⟨g, k * 7 + 3, none⟩ = some (.slice PA PL.length PC) := (hb3.cell hgq).trans hS0.2
        have hfin : Hid (∃ t, TwJ w s t (w3.setCell ⟨g, k * 7 + 3, none⟩ (.slice A1 PL.length c1))) := by
          have hk3 : k < t.heaps.length := hL9.out ▸ hk2
          have := hRq.out.part hb3 hk3 hg2.out (A := A1) (c := c1) (by rw [← hPL.out]; exact hr3)
          rw [← hPL.out] at this
          exact ⟨_, this⟩
        clear hr3
        replace hb3 := Lib.hid hb3
        refine ⟨⟨z3', hg3'⟩, ?_⟩
        refine wpSeqs_pure (v := ?_) rfl (by rfl) ?_ (fun _ _ _ h => h) ?_
        rotate_left
        focus (intro w'; (try simp only [List.getElem_toArray, List.getElem_cons_zero, List.getElem_cons_succ]); go_simp; try with_reducible rfl)
        simp only [List.getElem_toArray, List.getElem_cons_zero, List.getElem_cons_succ, Act.put, List.setIfInBounds_toArray, List.set_cons_zero, List.set_cons_succ]
        refine wpSeqs_pure (v := ?_) rfl (by rfl) ?_ (fun _ _ _ h => h) ?_
        rotate_left
        focus (intro w'; (try simp only [List.getElem_toArray, List.getElem_cons_zero, List.getElem_cons_succ]); go_simp; try with_reducible rfl)
        simp only [List.getElem_toArray, List.getElem_cons_zero, List.getElem_cons_succ, Act.put, List.setIfInBounds_toArray, List.set_cons_zero, List.set_cons_succ]
        refine wpSeqs_do rfl (by rfl) ?_
        go_simp
        unfold wpSeqs
        obtain ⟨t', hfin⟩ := hfin.out
        replace hfin := Lib.hid hfin
        have hsm := hm.out.heaps
        go_wp2_with fail
        exact ⟨⟨k + 1, t', by go_num, by omega, hfin⟩, by simp only [intOf]; omega⟩
      · obtain rfl : k = s.heaps.length := by omega
        obtain ⟨y0, y1, y2, y3, y4, y5⟩ := cells6 hR.out.out
        have hfz : ∀ j, wr.frozen? ⟨w.heap.size + 1, j, none⟩ = false := fun j => frozen_of_row wr _ j _ _ hR.out.out
        have g0 := hfz 0
        have g1 := hfz 1
        have g2 := hfz 2
        have g3 := hfz 3
        have g4 := hfz 4
        have g5 := hfz 5
        clear hfz
        go_wp2_with fail
        clear g0 g1 g2 g3 g4 g5 y0 y1 y2 y3 y4 y5 z0 z1 z2 z3 z4 z5
        obtain ⟨Wf, hWf⟩ : ∃ Wf, Wf = ((((((wr.setCell ⟨w.heap.size + 1, 0, none⟩ (.int .i64 t.year)).setCell ⟨w.heap.size + 1, 1, none⟩ (.slice t.la t.last.length t.lc)).setCell ⟨w.heap.size + 1, 2, none⟩ (.slice t.ga t.given.length t.gc)).setCell ⟨w.heap.size + 1, 3, none⟩ (.slice t.ha t.heaps.length t.hc)).setCell ⟨w.heap.size + 1, 4, none⟩ (.slice t.ua t.used.length t.uc)).setCell ⟨w.heap.size + 1, 5, none⟩ (.slice t.wa t.waste.length t.wc)) := ⟨_, rfl⟩
        rw [← hWf]
        have hbox : Wf.heap[w.heap.size + 1]? = some (.cells (storeCells t) 43 (0, 0)) := by rw [hWf]; exact set6 _ _ _ _ _ _ hR.out.out
        have hend : Rows w.heap.size none t Wf := by
          rw [hWf]
          exact ((((((hR.out.rows.box 0 _).box 1 _).box 2 _).box 3 _).box 4 _).box 5 _).loose (by omega)
        have hbe : Below w.heap.size w Wf := by rw [hWf]; exact set6_below _ _ _ _ _ _ hR.out.below (Nat.le_succ _)
        have hsame := hR.out.same
        refine bodyPost_ret (results_cell_row rfl _ _ (w.heap.size + 1) 43 (storeCells t) (0, 0) _ rfl hbox Try.underlying43 rfl (by kernel_rfl)) rfl ?_
        exact ⟨t, rfl, hsame, hend, hbe⟩
end Go.Proofs.Ytpgkhlpepckfgaa
end
section
namespace Go.Proofs.Ytpgkhlpepckfgaa
open Go.RowKit Go.Lib

theorem ofL_le {l : List Portion} (k : Int) (h : ∀ p ∈ l, 0 ≤ p.loads) : 0 ≤ ofL l k ∧ ofL l k ≤ sumL l := by
  induction l with
  | nil => simp [ofL, sumL]
  | cons a l ih =>
    obtain ⟨i1, i2⟩ := ih fun p hp => h p (by simp [hp])
    have := h a (by simp)
    unfold ofL sumL at *
    simp only [List.map_cons, List.sum_cons]
    split <;> omega
theorem leftL_le {l : List Heap} (k : Int) (h : ∀ x ∈ l, ∀ p ∈ x.parts, 0 ≤ p.loads) : 0 ≤ leftL l k ∧ leftL l k ≤ heapsL l := by
  induction l with
  | nil => simp [leftL, heapsL]
  | cons a l ih =>
    obtain ⟨i1, i2⟩ := ih fun p hp => h p (by simp [hp])
    have := ofL_le k (h a (by simp))
    unfold leftL heapsL at *
    simp only [List.map_cons, List.sum_cons]
    omega
/-- Bounds. -/
structure DoG (pl : List Plot) (dry : Int) (s : Store) : Prop where
  plots : pl.length ≤ 12
  plot : ∀ q ∈ pl, (1 ≤ q.size ∧ q.size ≤ 100) ∧ (0 ≤ q.yield.lo ∧ q.yield.lo ≤ q.yield.hi ∧ q.yield.hi ≤ 1000) ∧ (1 ≤ q.rest ∧ q.rest ≤ 100)
  pok : ∀ q ∈ pl, plotOk q = true
  dryB : 0 ≤ dry ∧ dry ≤ 1000
  year : 0 ≤ s.year ∧ s.year ≤ 100
  last : s.last.length = pl.length
  given : s.given.length = pl.length
  lasts : ∀ x ∈ s.last, -1 ≤ x ∧ x ≤ 100
  givens : ∀ x ∈ s.given, 0 ≤ x ∧ x ≤ 100000
  hlen : s.heaps.length ≤ 16
  used : Mild s.used
  waste : Mild s.waste
  heaps : MildH s.heaps
  uin : ∀ p ∈ s.used, 0 ≤ p.plot ∧ p.plot < (pl.length : Int)
  win : ∀ p ∈ s.waste, 0 ≤ p.plot ∧ p.plot < (pl.length : Int)
  hin : ∀ x ∈ s.heaps, ∀ p ∈ x.parts, 0 ≤ p.plot ∧ p.plot < (pl.length : Int)
  per : ∀ x ∈ s.heaps, x.stage = 3 → 1 ≤ x.per ∧ x.per ≤ 100
  wet : ∀ x ∈ s.heaps, 0 ≤ x.wet.lo ∧ x.wet.lo ≤ x.wet.hi ∧ x.wet.hi ≤ 1000
  name : ∀ x ∈ s.heaps, nameB x.name = true
  stage : ∀ x ∈ s.heaps, 1 ≤ x.stage ∧ x.stage ≤ 3
  total : totalS s ≤ 100000
  store : storeB pl s = true
  farm : checkI pl dry = 0

theorem checkS_zero {pl : List Plot} {dry : Int} {s : Store} (h : checkS pl dry s = 0) : checkI pl dry = 0 ∧ storeB pl s = true := by
  have hc : checkI pl dry = 0 := Decidable.byContradiction fun hc => by rw [checkS_bad hc] at h; exact hc h
  refine ⟨hc, ?_⟩
  cases q : storeB pl s with
  | false => rw [checkS_not hc q] at h; cases h
  | true => rfl
theorem good_do {pl : List Plot} {dry : Int} {s : Store} (h : checkS pl dry s = 0) (hu : s.used.length ≤ 1000000) (hw : s.waste.length ≤ 1000000) (hh : ∀ x ∈ s.heaps, x.parts.length ≤ 1000000) : DoG pl dry s := by
  have hG := good_store h hu hw hh
  obtain ⟨hc, hs⟩ := checkS_zero h
  have hs' := hs
  rw [storeB_eq, Bool.and_eq_true, Bool.and_eq_true, Bool.and_eq_true] at hs
  have q' := hs.1.1.1
  simp only [storeHead, Bool.and_eq_true, decide_eq_true_eq, inB] at q'
  obtain ⟨⟨⟨⟨⟨⟨t1, t1'⟩, t2⟩, t3⟩, t4⟩, t5⟩, t6⟩ := q'
  have ht := of_decide_eq_true hs.1.2
  have hok := checkI_ok hc
  have hdry := (checkI_zero hc).2.2
  simp only [inB, Bool.and_eq_true, decide_eq_true_eq] at hdry
  have hf : ∀ i, i < pl.length → fieldAt s i = true := fun i hi => allB_get hs.2 hi
  have hhp : ∀ x ∈ s.heaps, heapB pl x = true := fun x hx => by
    obtain ⟨j, hj, rfl⟩ := List.mem_iff_getElem.1 hx
    exact checkS_heap h hj
  have hb : ∀ x ∈ s.heaps, (1 ≤ x.stage ∧ x.stage ≤ 3) ∧ (0 ≤ x.wet.lo ∧ x.wet.lo ≤ x.wet.hi ∧ x.wet.hi ≤ 1000) ∧ (x.stage = 3 → 1 ≤ x.per ∧ x.per ≤ 100) ∧ nameB x.name = true := fun x hx => by
    have := hhp x hx
    unfold heapB at this
    simp only [Bool.and_eq_true, inB, spanB, decide_eq_true_eq] at this
    obtain ⟨⟨⟨⟨⟨⟨⟨a1, a2⟩, a3⟩, a4⟩, a5⟩, a6⟩, a7⟩, a8⟩ := this
    refine ⟨a3, ⟨a6.1.1, a6.1.2, a6.2⟩, fun e => ?_, a1⟩
    rw [if_pos e] at a8
    simp only [Bool.and_eq_true, decide_eq_true_eq] at a8
    exact a8.1
  have hgt : ∀ i, i < pl.length → 0 ≤ leftL s.heaps i + ofL s.used i + ofL s.waste i ∧ leftL s.heaps i + ofL s.used i + ofL s.waste i ≤ totalS s := fun i _ => by
    have u := ofL_le i fun p hp => (hG.used.2 p hp).1
    have v := ofL_le i fun p hp => (hG.waste.2 p hp).1
    have x := leftL_le i fun y hy p hp => ((hG.heaps.2 y hy).2 p hp).1
    unfold totalS
    omega
  refine ⟨hG.plots, fun q hq => ?_, hok, hdry, ⟨t1, t1'⟩, t2, t3, fun x hx => ?_, fun x hx => ?_, t4, hG.used, hG.waste, hG.heaps, hG.uin, hG.win, hG.hin, fun x hx => (hb x hx).2.2.1, fun x hx => (hb x hx).2.1, fun x hx => (hb x hx).2.2.2, fun x hx => (hb x hx).1, ht, hs', hc⟩
  · have := hok q hq
    simp only [plotOk, Bool.and_eq_true, inB, spanB, decide_eq_true_eq] at this
    omega
  · obtain ⟨i, hi, rfl⟩ := List.mem_iff_getElem.1 hx
    have := hf i (by omega)
    simp only [fieldAt, getD_lt _ hi, Bool.and_eq_true, inB, decide_eq_true_eq] at this
    omega
  · obtain ⟨i, hi, rfl⟩ := List.mem_iff_getElem.1 hx
    have h1 := hf i (by omega)
    simp only [fieldAt, getD_lt _ hi, Bool.and_eq_true, decide_eq_true_eq] at h1
    have := hgt i (by omega)
    omega
theorem DoG.mildS {pl : List Plot} {dry : Int} {s : Store} (h : DoG pl dry s) : MildS s :=
  ⟨by have := h.last; have := h.plots; omega, by have := h.given; have := h.plots; omega, by have := h.hlen; omega, h.used.1, h.waste.1, fun x hx => (h.heaps.2 x hx).1⟩
end Go.Proofs.Ytpgkhlpepckfgaa
end
section
namespace Go.Proofs.Ytpgkhlpepckfgaa
open Go.RowKit Go.Lib

theorem map_erase {α β : Type} (f : α → β) (l : List α) (m : Nat) : (l.eraseIdx m).map f = (l.map f).eraseIdx m := by
  rw [List.eraseIdx_eq_take_drop_succ, List.eraseIdx_eq_take_drop_succ, List.map_append, List.map_take, List.map_drop]
theorem cell_set_off {w : World} {b o o' : Nat} (u : Value) {v : Value} (h : w.cell? ⟨b, o', none⟩ = some v) (hne : o' ≠ o) : (w.setCell ⟨b, o, none⟩ u).cell? ⟨b, o', none⟩ = some v := by
  have hl : b < w.heap.size := World.block_lt_of_cell? w _ h
  simp only [World.cell?, World.setCell, Array.getElem?_modify, if_pos] at h ⊢
  cases q : w.heap[b]? with
  | none => rw [q] at h; cases h
  | some ob =>
    rw [q] at h
    cases ob <;> simp_all [Ne.symm hne]
theorem cell_set_blk {w : World} {b b' o o' : Nat} (u : Value) {v : Value} (h : w.cell? ⟨b', o', none⟩ = some v) (hne : b' ≠ b) : (w.setCell ⟨b, o, none⟩ u).cell? ⟨b', o', none⟩ = some v :=
  (World.cell?_of_block (a := ⟨b', o', none⟩) (Below.heap_setCell _ _ _ _ hne)).trans h
theorem frozen_set {w w' : World} {b o o' : Nat} {u : Value} (hw : w' = w.setCell ⟨b, o, none⟩ u) (h : w.frozen? ⟨b, o', none⟩ = false) : w'.frozen? ⟨b, o', none⟩ = false := by
  rw [hw]
  simp only [World.frozen?, World.setCell, Array.getElem?_modify, if_pos] at h ⊢
  cases q : w.heap[b]? with
  | none => simp
  | some ob =>
    rw [q] at h
    cases ob <;> simp_all

set_option maxHeartbeats 2000000 in
set_option maxRecDepth 100000 in
theorem join_any (B b : Nat) (A : Option Addr) (n c : Nat) (dry : Int) (s : Store) (a : Chore) (W : World) (h : Own B b A n c dry s W) (hm : MildH s.heaps) :
    Calls Try.prog 99 #[ptr b, choreVal a] W (ShedOut B b A n c dry (if nameIdx a.name s.heaps < 0 then (7, s) else joinP s (nameIdx a.name s.heaps).toNat a) W) := by
  obtain ⟨W1, hW1⟩ : ∃ W1, W1 = W.alloc (.cells (choreCells a) 64) := ⟨_, rfl⟩
  have hb0 : Below W.heap.size W W1 := by rw [hW1]; exact (Below.refl _ W).alloc (Nat.le_refl _) _
  have hB := h.bLe
  have h1 := Lib.hid (h.later hb0)
  have hrg := nameIdx_range a.name s.heaps
  have hrg2 := nameIdx_range a.other s.heaps
  obtain ⟨i, hi⟩ : ∃ i, i = nameIdx a.name s.heaps := ⟨_, rfl⟩
  obtain ⟨i2, hi2⟩ : ∃ i2, i2 = nameIdx a.other s.heaps := ⟨_, rfl⟩
  rw [← hi] at hrg ⊢
  rw [← hi2] at hrg2
  have hch : Hid (W1.heap[W.heap.size]? = some (.cells (choreCells a) 64 (0, 0))) := by unfold Hid; rw [hW1]; exact heap_new _ _ _ rfl
  have chl := (Array.getElem?_eq_some_iff.1 hch.out).1
  have hbl := h1.out.size
  replace hb0 := Lib.hid hb0
  replace hW1 := Lib.hid hW1
  have d5 := fun W' (hW' : Own B b A n c dry s W') => (eight_cells hW'.box).2.2.2.2.2.1
  replace d5 := Lib.hid d5
  by_cases hneg : i < 0
  · rw [if_pos hneg]
    have hc := Lib.hid (heap_no b s.ha s.hc s.heaps a.name W1 (d5.out _ h1.out) h1.out.rows.heapsRd (hi ▸ hneg))
    clear hi hi2
    go_enter Try.func99, Try.ntmps99
    go_wp2_with fail
    rw [← hW1.out]
    go_wp2_with (go_at_call 122; refine hc.out.mono ?_; rintro e w2 ⟨rfl, hb2⟩)
    exact ⟨rfl, (hb0.out.mono hB).trans (hb2.mono (Nat.le_trans hB hb0.out.size)), .inl ⟨(by decide : (7 : Int) ≠ 0), rfl⟩⟩
  · rw [if_neg hneg]
    have hc := heap_ok b s.ha s.hc s.heaps a.name W1 (d5.out _ h1.out) h1.out.rows.heapsRd (by omega)
    rw [← hi] at hc
    obtain ⟨k, hk⟩ : ∃ k : Nat, i = (k : Int) := ⟨i.toNat, by omega⟩
    subst hk
    rw [Int.toNat_natCast]
    have hkl : k < s.heaps.length := by omega
    replace hc := Lib.hid hc
    obtain ⟨_, _, _, ych, ych4, _⟩ := nine_cells hch.out
    replace hi := Lib.hid hi
    by_cases hneg2 : i2 < 0
    · have hr : Hid (joinP s k a = (7, s)) := by unfold Hid joinP; rw [← hi2, if_pos hneg2]
      have hc2 : Hid (∀ W', Below W1.heap.size W1 W' → Calls Try.prog 122 #[ptr b, .string a.other] W' fun e w' => e = .panicked (errChain 7) ∧ Below W'.heap.size W' w') := fun W' hW' => heap_no b s.ha s.hc s.heaps a.other W' (d5.out _ (h1.out.later hW')) (h1.out.later hW').rows.heapsRd (hi2 ▸ hneg2)
      replace hi2 := Lib.hid hi2
      go_enter Try.func99, Try.ntmps99
      go_wp2_with fail
      rw [← hW1.out]
      go_wp2_with (first | (go_at_call 122; (with_reducible refine (hc2.out _ hb2).mono ?_); rintro e w3 ⟨rfl, hb3⟩) | (go_at_call 122; (with_reducible refine hc.out.mono ?_); rintro e w2 ⟨rfl, hb2⟩; obtain ⟨rb, _⟩ := bcell hb2))
      rw [hr.out]
      exact ⟨rfl, ((hb0.out.mono hB).trans (hb2.mono h1.out.bLe)).trans (hb3.mono (Nat.le_trans h1.out.bLe hb2.size)), .inl ⟨(by decide : (7 : Int) ≠ 0), rfl⟩⟩
    · have hc2 := fun W' (hW' : Below W1.heap.size W1 W') => heap_ok b s.ha s.hc s.heaps a.other W' (d5.out _ (h1.out.later hW')) (h1.out.later hW').rows.heapsRd (by omega)
      rw [← hi2] at hc2
      obtain ⟨m, hmk⟩ : ∃ m : Nat, i2 = (m : Int) := ⟨i2.toNat, by omega⟩
      subst hmk
      have hml : m < s.heaps.length := by omega
      replace hc2 := Lib.hid hc2
      by_cases hkm : k = m
      · subst hkm
        have hr : Hid (joinP s k a = (10, s)) := by unfold Hid joinP; rw [← hi2, if_neg (by omega), if_pos rfl]
        replace hi2 := Lib.hid hi2
        have hd : ((k : Int) != (k : Int)) = false := by simp
        go_enter Try.func99, Try.ntmps99
        go_wp2_with fail
        rw [← hW1.out]
        go_wp2_with (first | (go_at_call 122; (with_reducible refine (hc2.out _ hb2).mono ?_); rintro e w3 ⟨rfl, hb3⟩) | (go_at_call 122; (with_reducible refine hc.out.mono ?_); rintro e w2 ⟨rfl, hb2⟩; obtain ⟨rb, _⟩ := bcell hb2) | (go_at_call 75; (with_reducible refine (demand_no _ _).mono ?_); rintro e w4 ⟨rfl, rfl⟩))
        rw [hr.out]
        exact ⟨rfl, ((hb0.out.mono hB).trans (hb2.mono h1.out.bLe)).trans (hb3.mono (Nat.le_trans h1.out.bLe hb2.size)), .inl ⟨(by decide : (10 : Int) ≠ 0), rfl⟩⟩
      · have hd : ((k : Int) != (m : Int)) = true := by simp; omega
        have hi2' := Lib.hid hi2
        clear hi2
        go_enter Try.func99, Try.ntmps99
        go_wp2_with fail
        rw [← hW1.out]
        go_wp2_with (first | (go_at_call 122; (with_reducible refine (hc2.out _ hb2).mono ?_); rintro e w3 ⟨rfl, hb3⟩) | (go_at_call 122; (with_reducible refine hc.out.mono ?_); rintro e w2 ⟨rfl, hb2⟩; obtain ⟨rb, _⟩ := bcell hb2) | (go_at_call 75; (with_reducible refine (demand_on _ _).mono ?_); rintro e w4 ⟨rfl, rfl⟩))
        have hb13 : Below W1.heap.size W1 w3 := hb2.trans (hb3.mono hb2.size)
        have hO3 := Lib.hid (h1.out.later hb13)
        obtain ⟨g, hg, _, hfz, gl3⟩ := hO3.out.hcells hkl
        have hg' := Lib.hid hg
        clear hg
        obtain ⟨G, hGe⟩ : ∃ G, G = s.heaps[k] := ⟨_, rfl⟩
        obtain ⟨H, hHe⟩ : ∃ H, H = s.heaps[m] := ⟨_, rfl⟩
        have hcg : HCells g k G w3 := hGe ▸ hO3.out.hcellsG hg'.out hkl
        have hch : HCells g m H w3 := hHe ▸ hO3.out.hcellsG hg'.out hml
        have e5 := d5.out _ hO3.out
        rw [hg'.out] at e5
        have bl3 := hO3.out.size
        obtain ⟨m0, m1, m2, m3, m4, m5, m6⟩ := hch
        replace hcg := Lib.hid hcg
        replace hGe := Lib.hid hGe
        replace hHe := Lib.hid hHe
        replace hb2 := Lib.hid hb2
        replace hb3 := Lib.hid hb3
        replace hfz := Lib.hid hfz
        clear rb
        have S0 : Hid (w3.drew.cell? ⟨b, 5, none⟩ = some (.slice (some ⟨g, 0, none⟩) s.heaps.length s.hc) ∧ w3.drew.cell? ⟨g, m * 7, none⟩ = some (.string H.name) ∧ w3.drew.cell? ⟨g, m * 7 + 1, none⟩ = some (.int .i64 H.crop) ∧ w3.drew.cell? ⟨g, m * 7 + 2, none⟩ = some (.int .i64 H.stage) ∧ w3.drew.cell? ⟨g, m * 7 + 3, none⟩ = some (.slice H.pa H.parts.length H.pc) ∧ w3.drew.cell? ⟨g, m * 7 + 4, none⟩ = some (.int .i64 H.per) ∧ w3.drew.cell? ⟨g, m * 7 + 5, none⟩ = some (.int .i64 H.wet.lo) ∧ w3.drew.cell? ⟨g, m * 7 + 6, none⟩ = some (.int .i64 H.wet.hi)) := ⟨e5, m0, m1, m2, m3, m4, m5, m6⟩
        go_region_held3 (fun w' => w'.cell? ⟨b, 5, none⟩ = some (.slice (some ⟨g, 0, none⟩) s.heaps.length s.hc) ∧ w'.cell? ⟨g, m * 7, none⟩ = some (.string H.name) ∧ w'.cell? ⟨g, m * 7 + 1, none⟩ = some (.int .i64 H.crop) ∧ w'.cell? ⟨g, m * 7 + 2, none⟩ = some (.int .i64 H.stage) ∧ w'.cell? ⟨g, m * 7 + 3, none⟩ = some (.slice H.pa H.parts.length H.pc) ∧ w'.cell? ⟨g, m * 7 + 4, none⟩ = some (.int .i64 H.per) ∧ w'.cell? ⟨g, m * 7 + 5, none⟩ = some (.int .i64 H.wet.lo) ∧ w'.cell? ⟨g, m * 7 + 6, none⟩ = some (.int .i64 H.wet.hi))
          (first | (with_reducible exact S0.out) | (with_reducible assumption) | go_keep) (fail)
        obtain ⟨w4, hw4⟩ : ∃ w4, w4 = (w3.alloc (.cells (hcells H) 77)).drew := ⟨_, rfl⟩
        rw [← hw4]
        have hb4 : Below w3.heap.size w3 w4 := by rw [hw4]; exact ((Below.refl _ w3).alloc (Nat.le_refl _) _).drew
        have hx : w4.heap[w3.heap.size]? = some (.cells (hcells H) 77 (0, 0)) := by rw [hw4]; exact heap_new w3 _ _ rfl
        obtain ⟨p0, p1, p2, p3, p4, p5, p6⟩ := seven_cells hx
        have hxl := (Array.getElem?_eq_some_iff.1 hx).1
        have hO4 := Lib.hid (hO3.out.later hb4)
        have gl4 : g < w4.heap.size := Nat.lt_of_lt_of_le gl3 hb4.size
        obtain ⟨rb, sb⟩ := bcell hb4
        obtain ⟨_, n1, n2, n3, _, n5, n6⟩ := hcg.out
        have q1 := (rb g (k * 7 + 1) gl3).trans n1
        have q2 := (rb g (k * 7 + 2) gl3).trans n2
        have q3 := (rb g (k * 7 + 3) gl3).trans n3
        have q5 := (rb g (k * 7 + 5) gl3).trans n5
        have q6 := (rb g (k * 7 + 6) gl3).trans n6
        have hb14 : Hid (Below B W w4) := ((hb0.out.mono hB).trans (hb13.mono h1.out.bLe)).trans (hb4.mono hO3.out.bLe)
        have hgd : s.heaps.getD k default = G := by rw [getD_lt _ hkl, hGe.out]
        have hhd : s.heaps.getD (nameIdx a.other s.heaps).toNat default = H := by rw [← hi2'.out, Int.toNat_natCast, getD_lt _ hml, hHe.out]
        have hne1 : ¬ nameIdx a.other s.heaps < 0 := by rw [← hi2'.out]; omega
        have hne2 : ¬ nameIdx a.other s.heaps = (k : Int) := by rw [← hi2'.out]; omega
        replace hgd := Lib.hid hgd
        replace hhd := Lib.hid hhd
        replace hne1 := Lib.hid hne1
        replace hne2 := Lib.hid hne2
        replace hw4 := Lib.hid hw4
        replace hb4 := Lib.hid hb4
        replace hb13 := Lib.hid hb13
        replace hx := Lib.hid hx
        clear n1 n2 n3 n5 n6 m0 m1 m2 m3 m4 m5 m6 e5 rb sb S0
        go_wp2
        by_cases t1 : G.crop = H.crop
        · have t1b : (G.crop == H.crop) = true := by simpa using t1
          by_cases t2 : G.stage = H.stage
          · have t2b : (G.stage == H.stage) = true := by simpa using t2
            by_cases t3 : G.stage = 3
            · have t3b : (G.stage != 3) = false := by simpa using t3
              have hr : Hid (joinP s k a = (8, s)) := by unfold Hid joinP; rw [hgd.out, hhd.out, if_neg (by have := hne1.out; omega), if_neg (by have := hne2.out; omega), if_pos (by simp [t3])]
              replace t1 := Lib.hid t1
              replace t2 := Lib.hid t2
              replace t3 := Lib.hid t3
              refine wp_region_last 23 rfl (by kernel_rfl) (by kernel_rfl) ?_
              simp only [List.take_succ_cons, List.take_zero]
              repeat (go_big_quiet_step (fail))
              refine wpQuiet_nil ?_
              rintro _ ⟨nq, rfl⟩
              go_simp
              (with_reducible refine (demand_no _ _).mono ?_)
              rintro e w8 ⟨rfl, rfl⟩
              rw [hr.out]
              exact ⟨rfl, hb14.out.trans (below_drewN_ _ _), .inl ⟨(by decide : (8 : Int) ≠ 0), rfl⟩⟩
            · have t3b : (G.stage != 3) = true := by simpa using t3
              replace t1 := Lib.hid t1
              replace t2 := Lib.hid t2
              replace t3 := Lib.hid t3
              have q3c := hO4.out.rows.parts _ (List.getElem_mem hkl)
              have q3d := hO4.out.rows.parts _ (List.getElem_mem hml)
              rw [hGe.out.symm] at q3c
              rw [hHe.out.symm] at q3d
              have hmg : Mild G.parts := hGe.out ▸ hm.2 _ (List.getElem_mem hkl)
              have hmh : Mild H.parts := hHe.out ▸ hm.2 _ (List.getElem_mem hml)
              have hlen := Lib.hid (behind_len hmg hmh)
              go_big_quiet (first | (go_at_call 75; exact Calls.quiet_of_same (demand_ok _ _)))
              obtain ⟨w5, hw5⟩ : ∃ w5, w5 = w4.drewN nq := ⟨_, rfl⟩
              rw [← hw5]
              have hb5 : Below w4.heap.size w4 w5 := by rw [hw5]; exact below_drewN_ _ _
              have hO5 := hO4.out.later hb5
              have hb15 : Hid (Below B W w5) := hb14.out.trans (hb5.mono hO4.out.bLe)
              have hbe : Hid (Calls Try.prog 124 #[.slice G.pa G.parts.length G.pc, .slice H.pa H.parts.length H.pc] w5.drew (BehOut (behindP G.parts H.parts) w5.drew)) := behind_any _ _ _ _ _ _ _ (q3c.1.below (hb5.trans (below_drewN_ w5 1))) (q3d.1.below (hb5.trans (below_drewN_ w5 1))) hmg hmh
              obtain ⟨rb, sb⟩ := bcell hb5
              have r3 := (rb g (k * 7 + 3) gl4).trans q3
              have r5 := (rb g (k * 7 + 5) gl4).trans q5
              have r6 := (rb g (k * 7 + 6) gl4).trans q6
              have s3 := (rb w3.heap.size 3 hxl).trans p3
              have s5 := (rb w3.heap.size 5 hxl).trans p5
              have s6 := (rb w3.heap.size 6 hxl).trans p6
              have hxl5 : w3.heap.size < w5.heap.size := Nat.lt_of_lt_of_le hxl hb5.size
              have gl5 : g < w5.heap.size := Nat.lt_of_lt_of_le gl4 hb5.size
              have hfz5 : Hid (∀ W', Own B b A n c dry s W' → ∀ j, W'.frozen? ⟨g, j, none⟩ = false) := fun W' hW' j => World.ownsRow.frozenAt (show W'.ownsRow B 77 7 (.slice (some ⟨g, 0, none⟩) s.heaps.length s.hc) s.heaps.length (s.heaps.flatMap encHeap) by have := hW'.rows.heaps; rw [hg'.out] at this; exact this) j
              have hgne : Hid (g ≠ b ∧ w3.heap.size ≠ g) := ⟨(hO4.out.heapNe hg'.out).1, by omega⟩
              replace hO5 := Lib.hid hO5
              replace hb5 := Lib.hid hb5
              replace hw5 := Lib.hid hw5
              clear rb sb q1 q2 q3 q5 q6 p0 p1 p2 p3 p4 p5 p6 q3c q3d
              go_wp2
              go_region_with (first | (go_at_call 124; (with_reducible refine hbe.out.mono ?_); rintro e w6 ⟨A6, c6, rfl, hr6, hb6⟩; have hO6 := Lib.hid (hO5.out.later (Below.trans (below_drewN_ w5 1) hb6)); obtain ⟨rb, sb⟩ := bcell hb6; have u3 := (rb g (k * 7 + 3) gl5).trans r3; have u5 := (rb g (k * 7 + 5) gl5).trans r5; have u6 := (rb g (k * 7 + 6) gl5).trans r6; have v5 := (rb w3.heap.size 5 hxl5).trans s5; have v6 := (rb w3.heap.size 6 hxl5).trans s6; have uf := hfz5.out _ hO6.out (k * 7 + 3)))
              all_goals
                have hpl : RdParts w6 A6 (behindP G.parts H.parts) := hr6.rd hlen.out
                have hof : ∀ x, behindP G.parts H.parts ≠ [] → blk A6 = some x → Off s (some b) x := BehOut.off hO5.out (Nat.le_refl _) hr6
                have hnm : s.heaps[k].name.size ≤ 140737488351232 := (hO6.out.rows.parts _ (List.getElem_mem hkl)).2
                have h7 := hO6.out.heapTo (j := 3) (u := .slice A6 (behindP G.parts H.parts).length c6) (y := { s.heaps[k] with parts := behindP G.parts H.parts, pa := A6, pc := c6 }) hg'.out hkl (by decide) rfl ⟨⟨hpl, hnm⟩, hof⟩
                obtain ⟨w7, hw7⟩ : ∃ w7, w7 = w6.setCell ⟨g, k * 7 + 3, none⟩ (.slice A6 (behindP G.parts H.parts).length c6) := ⟨_, rfl⟩
                rw [← hw7] at h7 ⊢
                have xx5 : w7.cell? ⟨g, k * 7 + 5, none⟩ = some (.int .i64 G.wet.lo) := by rw [hw7]; exact cell_set_off _ u5 (by omega)
                have xx6 : w7.cell? ⟨g, k * 7 + 6, none⟩ = some (.int .i64 G.wet.hi) := by rw [hw7]; exact cell_set_off _ u6 (by omega)
                have zz5 : w7.cell? ⟨w3.heap.size, 5, none⟩ = some (.int .i64 H.wet.lo) := by rw [hw7]; exact cell_set_blk _ v5 hgne.out.2
                have zz6 : w7.cell? ⟨w3.heap.size, 6, none⟩ = some (.int .i64 H.wet.hi) := by rw [hw7]; exact cell_set_blk _ v6 hgne.out.2
                have hsz7 : w7.heap.size = w6.heap.size := by rw [hw7, set_size]
                have ww : w3.heap.size < w7.heap.size := by rw [hsz7]; exact Nat.lt_of_lt_of_le hxl5 hb6.size
                have gg : g < w7.heap.size := by rw [hsz7]; exact Nat.lt_of_lt_of_le gl5 hb6.size
                have ff5 : w7.frozen? ⟨g, k * 7 + 5, none⟩ = false := frozen_set hw7 (hfz5.out _ hO6.out _)
                have ff6 : w7.frozen? ⟨g, k * 7 + 6, none⟩ = false := frozen_set hw7 (hfz5.out _ hO6.out _)
                have hb17 := Lib.hid ((hb15.out.trans ((below_drewN_ w5 1).trans (hb6.mono hO5.out.bLe))).trans h7.2)
                obtain ⟨lo, hlo⟩ : ∃ lo, lo = min G.wet.lo H.wet.lo := ⟨_, rfl⟩
                obtain ⟨hh, hhh⟩ : ∃ hh, hh = max G.wet.hi H.wet.hi := ⟨_, rfl⟩
                have hmn : ∀ (w : World) (ts : Array TypeId) (t : TypeId), (Builtin.min_ ts t #[.int .i64 G.wet.lo, .int .i64 H.wet.lo]).run Try.prog w = .ok (.int .i64 lo) w := fun w ts t => by rw [hlo]; exact run_min_ints w ts t _ _ _ _
                have hmx : ∀ (w : World) (ts : Array TypeId) (t : TypeId), (Builtin.max_ ts t #[.int .i64 G.wet.hi, .int .i64 H.wet.hi]).run Try.prog w = .ok (.int .i64 hh) w := fun w ts t => by rw [hhh]; exact run_max_ints w ts t _ _ _ _
                replace h7 := Lib.hid h7.1
                replace hw7 := Lib.hid hw7
                replace hlo := Lib.hid hlo
                replace hhh := Lib.hid hhh
                clear r3 r5 r6 s3 s5 s6 u3 u5 u6 v5 v6 uf rb sb hpl hof
                go_wp2
                refine wp_region_last 22 rfl (by kernel_rfl) (by kernel_rfl) ?_
                simp only [List.take_succ_cons, List.take_zero]
                repeat (go_big_quiet_step (fail))
                refine wpQuiet_nil ?_
                rintro _ ⟨nq, rfl⟩
                go_simp
                have hkl7 : k < (s.heaps.set k { s.heaps[k] with parts := behindP G.parts H.parts, pa := A6, pc := c6 }).length := by rw [List.length_set]; exact hkl
                have h8 := h7.out.later (below_drewN_ w7 nq)
                have hold8 := h8.rows.old (List.getElem_mem hkl7)
                rw [List.getElem_set_self] at hold8
                have h9 := h8.heapTo (j := 5) (u := .int .i64 lo) (y := { s.heaps[k] with parts := behindP G.parts H.parts, pa := A6, pc := c6, wet := ⟨lo, s.heaps[k].wet.hi⟩ }) hg'.out hkl7 (by decide) (by simp [encHeap]) hold8
                have hkl9 : k < ((s.heaps.set k { s.heaps[k] with parts := behindP G.parts H.parts, pa := A6, pc := c6 }).set k { s.heaps[k] with parts := behindP G.parts H.parts, pa := A6, pc := c6, wet := ⟨lo, s.heaps[k].wet.hi⟩ }).length := by rw [List.length_set]; exact hkl7
                have hold9 := h9.1.rows.old (List.getElem_mem hkl9)
                rw [List.getElem_set_self] at hold9
                have h10 := h9.1.heapTo (j := 6) (u := .int .i64 hh) (y := { s.heaps[k] with parts := behindP G.parts H.parts, pa := A6, pc := c6, wet := ⟨lo, hh⟩ }) hg'.out hkl9 (by decide) (by simp [encHeap]) hold9
                have hkk := keep_any B b A n c dry _ m none 0 [] _ h10.1 (by simp only [List.length_set]; exact hml) ⟨by simp, by simp⟩ (fun x e => absurd rfl e)
                have hb10 := Lib.hid (((hb17.out.trans (below_drewN_ w7 nq)).trans h9.2).trans h10.2)
                have hr : Hid (joinP s k a = (0, keepP { s with heaps := s.heaps.set k (wetH (setPartsH G (behindP G.parts H.parts)) ⟨lo, hh⟩) } m [])) := by
                  have e1 : (nameIdx a.other s.heaps).toNat = m := by rw [← hi2'.out]; rfl
                  unfold Hid joinP
                  rw [hgd.out, hhd.out, if_neg (by have := hne1.out; omega), if_neg (by have := hne2.out; omega), if_neg (by simp [t1.out, t2.out]; rw [← t2.out]; exact t3.out), hlo.out, hhh.out, e1]
                replace hkk := Lib.hid hkk
                clear h8 hold8 h9 hold9 h10 xx5 xx6 zz5 zz6 ff5 ff6
                go_wp2_with (go_at_call 125; refine hkk.out.mono ?_; rintro e w11 ⟨rfl, t, ht11, h11, hb11⟩)
                go_end0
                rw [hr.out]
                refine ⟨hb10.out.trans hb11, .inr ⟨rfl, rfl, t, ht11.trans ?_, h11⟩⟩
                refine ⟨rfl, rfl, rfl, ?_, rfl, rfl⟩
                show List.map bareH ((((s.heaps.set k _).set k _).set k _).eraseIdx m) = List.map bareH ((s.heaps.set k _).eraseIdx m)
                rw [List.set_set, List.set_set, map_erase, map_erase, List.map_set, List.map_set, hGe.out]
                rfl
          · have t2b : (G.stage == H.stage) = false := by simpa using t2
            have hr : Hid (joinP s k a = (8, s)) := by unfold Hid joinP; rw [hgd.out, hhd.out, if_neg (by have := hne1.out; omega), if_neg (by have := hne2.out; omega), if_pos (by simp [t2])]
            replace t1 := Lib.hid t1
            replace t2 := Lib.hid t2
            refine wp_region_last 23 rfl (by kernel_rfl) (by kernel_rfl) ?_
            simp only [List.take_succ_cons, List.take_zero]
            repeat (go_big_quiet_step (fail))
            refine wpQuiet_nil ?_
            rintro _ ⟨nq, rfl⟩
            go_simp
            (with_reducible refine (demand_no _ _).mono ?_)
            rintro e w8 ⟨rfl, rfl⟩
            rw [hr.out]
            exact ⟨rfl, hb14.out.trans (below_drewN_ _ _), .inl ⟨(by decide : (8 : Int) ≠ 0), rfl⟩⟩
        · have t1b : (G.crop == H.crop) = false := by simpa using t1
          have hr : Hid (joinP s k a = (8, s)) := by unfold Hid joinP; rw [hgd.out, hhd.out, if_neg (by have := hne1.out; omega), if_neg (by have := hne2.out; omega), if_pos (by simp [t1])]
          replace t1 := Lib.hid t1
          refine wp_region_last 23 rfl (by kernel_rfl) (by kernel_rfl) ?_
          simp only [List.take_succ_cons, List.take_zero]
          repeat (go_big_quiet_step (fail))
          refine wpQuiet_nil ?_
          rintro _ ⟨nq, rfl⟩
          go_simp
          (with_reducible refine (demand_no _ _).mono ?_)
          rintro e w8 ⟨rfl, rfl⟩
          rw [hr.out]
          exact ⟨rfl, hb14.out.trans (below_drewN_ _ _), .inl ⟨(by decide : (8 : Int) ≠ 0), rfl⟩⟩
end Go.Proofs.Ytpgkhlpepckfgaa
end
