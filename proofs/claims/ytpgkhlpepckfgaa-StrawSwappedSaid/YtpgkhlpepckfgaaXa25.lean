/-
  A heap rots: walked. Bundles are used: walked. A heap is combed: walked. A heap dries: walked.
-/
import Derived.Test.YtpgkhlpepckfgaaXa07
import Derived.Test.YtpgkhlpepckfgaaXa20
import Derived.Test.YtpgkhlpepckfgaaXa24
import Derived.BigQuiet
import Derived.Deep.QuietTactic
import Derived.Deep.RegionHeld2
import Derived.Outline
set_option linter.all false
set_option linter.unusedVariables false
set_option linter.unusedSimpArgs false
section
namespace Go.Proofs.Ytpgkhlpepckfgaa
open Go.RowKit Go.Lib

/-- The seven cells of a heap in a row. -/
structure HCells (g k : Nat) (H : Heap) (W : World) : Prop where
  name : W.cell? ⟨g, k * 7, none⟩ = some (.string H.name)
  crop : W.cell? ⟨g, k * 7 + 1, none⟩ = some (.int .i64 H.crop)
  stage : W.cell? ⟨g, k * 7 + 2, none⟩ = some (.int .i64 H.stage)
  parts : W.cell? ⟨g, k * 7 + 3, none⟩ = some (.slice H.pa H.parts.length H.pc)
  per : W.cell? ⟨g, k * 7 + 4, none⟩ = some (.int .i64 H.per)
  lo : W.cell? ⟨g, k * 7 + 5, none⟩ = some (.int .i64 H.wet.lo)
  hi : W.cell? ⟨g, k * 7 + 6, none⟩ = some (.int .i64 H.wet.hi)
theorem Own.hcells {B b : Nat} {A : Option Addr} {n c : Nat} {dry : Int} {s : Store} {W : World} (h : Own B b A n c dry s W) {k : Nat} (hk : k < s.heaps.length) : ∃ g, s.ha = some ⟨g, 0, none⟩ ∧ HCells g k s.heaps[k] W ∧ (∀ j, W.frozen? ⟨g, j, none⟩ = false) ∧ g < W.heap.size := by
  obtain ⟨g, hg, hc, hf⟩ := h.rows.heapAt hk
  exact ⟨g, hg, ⟨hc 0 _ rfl, hc 1 _ rfl, hc 2 _ rfl, hc 3 _ rfl, hc 4 _ rfl, hc 5 _ rfl, hc 6 _ rfl⟩, hf, (h.heapNe hg).2.2⟩
theorem Own.hcellsG {B b : Nat} {A : Option Addr} {n c : Nat} {dry : Int} {s : Store} {W : World} {g : Nat} (h : Own B b A n c dry s W) (hg : s.ha = some ⟨g, 0, none⟩) {k : Nat} (hk : k < s.heaps.length) : HCells g k s.heaps[k] W := by
  obtain ⟨g', hg', hc, _⟩ := h.hcells hk
  rw [hg] at hg'
  cases hg'
  exact hc
/-- Parts of the store's are off what is its own. -/
theorem Own.oldOff {B b : Nat} {A : Option Addr} {n c : Nat} {dry : Int} {s : Store} {W : World} (h : Own B b A n c dry s W) {P : Option Addr} (hn : ∀ x, blk P = some x → W.heap.size ≤ x) {l : List Portion} : ∀ x, l ≠ [] → blk P = some x → Off s (some b) x := fun x _ e => h.rows.newOff (hn x e)
theorem BehOut.off {B b : Nat} {A : Option Addr} {n c : Nat} {dry : Int} {s : Store} {W W0 W' : World} (h : Own B b A n c dry s W0) (hW : W0.heap.size ≤ W.heap.size) {P : Option Addr} {m pc : Nat} {l : List Portion} (hr : PRow W' W.heap.size (.slice P m pc) l) : ∀ x, l ≠ [] → blk P = some x → Off s (some b) x := fun x _ e =>
  h.rows.newOff (Nat.le_trans hW (hr.lt x (by rw [ownBlock_slice]; exact e)).1)
theorem PRow.rd {W' : World} {base : Nat} {P : Option Addr} {m pc : Nat} {l : List Portion} (hr : PRow W' base (.slice P m pc) l) (hl : l.length ≤ 140737488351232) : RdParts W' P l := by
  obtain ⟨A, c, e, h⟩ := hr.reads hl
  simp only [Value.slice.injEq] at e
  rw [e.1]; exact h

set_option maxHeartbeats 2000000 in
set_option maxRecDepth 100000 in
theorem rot_any (B b : Nat) (A : Option Addr) (n c : Nat) (dry : Int) (s : Store) (a : Chore) (W : World) (h : Own B b A n c dry s W) (hw : Mild s.waste) (hm : MildH s.heaps) :
    Calls Try.prog 105 #[ptr b, choreVal a] W (ShedOut B b A n c dry (if nameIdx a.name s.heaps < 0 then (7, s) else rotP dry s (nameIdx a.name s.heaps).toNat) W) := by
  obtain ⟨W1, hW1⟩ : ∃ W1, W1 = W.alloc (.cells (choreCells a) 64) := ⟨_, rfl⟩
  have hb0 : Below W.heap.size W W1 := by rw [hW1]; exact (Below.refl _ W).alloc (Nat.le_refl _) _
  have hB := h.bLe
  have h1 := Lib.hid (h.later hb0)
  have hrg := nameIdx_range a.name s.heaps
  obtain ⟨i, hi⟩ : ∃ i, i = nameIdx a.name s.heaps := ⟨_, rfl⟩
  rw [← hi] at hrg ⊢
  replace hb0 := Lib.hid hb0
  replace hW1 := Lib.hid hW1
  have d5 := (eight_cells h1.out.box).2.2.2.2.2.1
  have hrd := h1.out.rows.heapsRd
  by_cases hneg : i < 0
  · rw [if_pos hneg]
    have hc := Lib.hid (heap_no b s.ha s.hc s.heaps a.name W1 d5 hrd (hi ▸ hneg))
    clear hi hrd d5
    go_enter Try.func105, Try.ntmps105
    go_wp2_with fail
    rw [← hW1.out]
    go_wp2_with (go_at_call 122; refine hc.out.mono ?_; rintro e w2 ⟨rfl, hb2⟩)
    exact ⟨rfl, (hb0.out.mono hB).trans (hb2.mono (Nat.le_trans hB hb0.out.size)), .inl ⟨(by decide : (7 : Int) ≠ 0), rfl⟩⟩
  · rw [if_neg hneg]
    have hc := heap_ok b s.ha s.hc s.heaps a.name W1 d5 hrd (by omega)
    rw [← hi] at hc
    obtain ⟨k, hk⟩ : ∃ k : Nat, i = (k : Int) := ⟨i.toNat, by omega⟩
    subst hk
    rw [Int.toNat_natCast]
    have hkl : k < s.heaps.length := by omega
    replace hc := Lib.hid hc
    clear hi hrd d5 hneg
    go_enter Try.func105, Try.ntmps105
    go_wp2_with fail
    rw [← hW1.out]
    go_wp2_with (go_at_call 122; refine hc.out.mono ?_; rintro e w2 ⟨rfl, hb2⟩)
    have h2 := h1.out.later hb2
    obtain ⟨g, hg, hH, hf, hgl⟩ := h2.hcells hkl
    obtain ⟨H, hHe⟩ : ∃ H, H = s.heaps[k] := ⟨_, rfl⟩
    rw [← hHe] at hH
    obtain ⟨d0, d1, d2, d3, d4, d5, d6, d7⟩ := eight_cells h2.box
    rw [hg] at d5
    have hbl := h2.size
    have x6 := hH.hi
    have x3 := hH.parts
    have hHl : k < s.heaps.length := hkl
    have hb12 : Hid (Below B W w2) := (hb0.out.mono hB).trans (hb2.mono (Nat.le_trans hB hb0.out.size))
    have hgd : s.heaps.getD k default = H := by rw [getD_lt _ hkl, ← hHe]
    have hpm : Mild H.parts := hHe ▸ hm.2 _ (List.getElem_mem hkl)
    have hpr : RdParts w2 H.pa H.parts := hHe ▸ (h2.rows.parts _ (List.getElem_mem hkl)).1
    replace hHe := Lib.hid hHe
    have hg' := Lib.hid hg
    clear hg
    by_cases ht : dry < H.wet.hi
    · have hr : Hid (rotP dry s k = (0, keepP { s with waste := behindP s.waste H.parts } k [])) := by unfold Hid rotP; rw [hgd, if_neg (by omega)]
      have hd : decide (dry < H.wet.hi) = true := decide_eq_true ht
      have h2' := Lib.hid h2
      replace hgd := Lib.hid hgd
      go_big_quiet (first | (go_at_call 75; exact Calls.quiet_of_same (demand_ok _ _)))
      obtain ⟨w3, hw3⟩ : ∃ w3, w3 = w2.drewN nq := ⟨_, rfl⟩
      rw [← hw3]
      go_wp2
      have hb3 : Below w2.heap.size w2 w3 := by rw [hw3]; exact below_drewN_ _ _
      have h3 : Own B b A n c dry s w3.drew := h2.later (hb3.trans (below_drewN_ w3 1))
      have hb13 : Hid (Below B W w3.drew) := (hb12.out.trans (hb3.mono h2.bLe)).drew
      replace hw3 := Lib.hid hw3
      have hkp : Hid (∀ W, Own B b A n c dry s W → W.cell? ⟨b, 7, none⟩ = some (.slice s.wa s.waste.length s.wc) ∧ W.cell? ⟨b, 5, none⟩ = some (.slice (some ⟨g, 0, none⟩) s.heaps.length s.hc) ∧ W.cell? ⟨g, k * 7 + 3, none⟩ = some (.slice H.pa H.parts.length H.pc) ∧ W.frozen? ⟨b, 7, none⟩ = false ∧ Own B b A n c dry s W) := fun W hW => by
        obtain ⟨_, _, _, _, _, y5, _, y7⟩ := eight_cells hW.box
        have z3 := (hW.hcellsG hg'.out hkl).parts
        rw [hg'.out] at y5
        rw [← hHe.out] at z3
        exact ⟨y7, y5, z3, hW.frozen 7, hW⟩
      have hbe : Hid (∀ W, Own B b A n c dry s W → Calls Try.prog 124 #[.slice s.wa s.waste.length s.wc, .slice H.pa H.parts.length H.pc] W (BehOut (behindP s.waste H.parts) W)) := fun W hW => behind_any _ _ _ _ _ _ W hW.rows.waste (hHe.out ▸ (hW.rows.parts _ (List.getElem_mem hkl)).1) hw hpm
      have h3' := Lib.hid h3
      obtain ⟨y7, y5, y3, yf, _⟩ := hkp.out _ h3
      have hkeep := fun (A6 : Option Addr) (c6 : Nat) (W : World) (hW : Own B b A n c dry { s with waste := behindP s.waste H.parts, wa := A6, wc := c6 } W) => keep_any B b A n c dry _ k none 0 [] W hW hkl ⟨by simp, by simp⟩ (fun x e => absurd rfl e)
      replace hkeep := Lib.hid hkeep
      have hlen : Hid ((behindP s.waste H.parts).length ≤ 140737488351232) := by
        have := (behindP_bounds s.waste hw.2 H.parts hpm.2 H.parts.length (Nat.le_refl _)).1
        rw [List.take_length] at this
        have := hw.1
        have := hpm.1
        unfold Hid; omega
      go_region_with (first | (go_at_call 124; (with_reducible refine (hbe.out _ h3'.out).mono ?_); rintro e w6 ⟨A6, c6, rfl, hr6, hb6⟩; have h6 : Own B b A n c dry s w6 := Own.later h3'.out hb6; obtain ⟨z7, z5, z3, zf, _⟩ := hkp.out _ h6; have h7 := h6.wasteTo c6 (hr6.rd hlen.out) (BehOut.off h3'.out (Nat.le_refl _) hr6); have hb7 := Lib.hid ((hb13.out.trans (hb6.mono (h3'.out).bLe)).trans h7.2); replace h7 := Lib.hid h7.1))
      all_goals
        go_wp2_with (go_at_call 125; refine (hkeep.out A6 c6 _ h7.out).mono ?_; rintro e w8 ⟨rfl, t, ht8, h8, hb8⟩)
        go_end0
        rw [hr.out]
        exact ⟨hb7.out.trans hb8, .inr ⟨rfl, rfl, t, ht8.trans ⟨rfl, rfl, rfl, rfl, rfl, rfl⟩, h8⟩⟩
    · have hr : Hid (rotP dry s k = (8, s)) := by unfold Hid rotP; rw [hgd, if_pos ht]
      have hd : decide (dry < H.wet.hi) = false := decide_eq_false ht
      go_region_held2 (fun w' => w'.cell? ⟨b, 5, none⟩ = some (.slice (some ⟨g, 0, none⟩) s.heaps.length s.hc) ∧ w'.cell? ⟨b, 1, none⟩ = some (.int .i64 dry) ∧ w'.cell? ⟨g, k * 7 + 6, none⟩ = some (.int .i64 H.wet.hi)) (go_keep) (first | (go_at_call 75; (with_reducible refine demand_dies _ _ ?_ (fun hF => ?_)); focus (rw [hr.out]; exact ⟨rfl, hb12.out.drew, .inl ⟨(by decide : (8 : Int) ≠ 0), rfl⟩⟩)))
      all_goals exact hF.out.elim
end Go.Proofs.Ytpgkhlpepckfgaa
end
section
namespace Go.Proofs.Ytpgkhlpepckfgaa
open Go.RowKit Go.Lib

theorem cutF_mild : ∀ (l : List Portion) (r : Int), (∀ p ∈ l, 0 ≤ p.loads ∧ p.loads ≤ 100000) → (cutF l r).length ≤ l.length ∧ ∀ p ∈ cutF l r, 0 < p.loads ∧ p.loads ≤ 100000
  | [], r, _ => ⟨by simp [cutF, takenL, firstL], fun p hp => by simp [cutF, takenL, firstL] at hp⟩
  | q :: l, r, h => by
    obtain ⟨i1, i2⟩ := cutF_mild l (r - min r q.loads) (fun p hp => h p (by simp [hp]))
    have hq := h q (by simp)
    have e : cutF (q :: l) r = (if 0 < min r q.loads then [⟨q.plot, min r q.loads⟩] else []) ++ cutF l (r - min r q.loads) := by
      unfold cutF
      simp only [takenL]
      have f : ∀ a b, firstL (a ++ b) = firstL a ++ firstL b := fun a b => by simp [firstL]
      rw [f]
      congr 1
      unfold stepP
      rw [f]
      have g1 : firstL (if 0 < min r q.loads then [(true, ⟨q.plot, min r q.loads⟩)] else []) = (if 0 < min r q.loads then [⟨q.plot, min r q.loads⟩] else []) := by split <;> simp [firstL]
      have g2 : firstL (if min r q.loads < q.loads then [(false, ⟨q.plot, q.loads - min r q.loads⟩)] else []) = [] := by split <;> simp [firstL]
      rw [g1, g2, List.append_nil]
    rw [e]
    split
    · refine ⟨by simp; omega, fun p hp => ?_⟩
      rcases List.mem_append.1 hp with h1 | h1
      · simp at h1; subst h1
        show 0 < min r q.loads ∧ min r q.loads ≤ 100000
        omega
      · exact i2 p h1
    · exact ⟨by simp; omega, fun p hp => i2 p (by simpa using hp)⟩
theorem Mild.cutF {l : List Portion} (h : Mild l) (r : Int) : Mild (cutF l r) := by
  obtain ⟨a, b⟩ := cutF_mild l r h.2
  have := h.1
  exact ⟨by omega, fun p hp => by have := b p hp; omega⟩
theorem behind_len {l more : List Portion} (h : Mild l) (h2 : Mild more) : (behindP l more).length ≤ 140737488351232 := by
  have := (behindP_bounds l h.2 more h2.2 more.length (Nat.le_refl _)).1
  rw [List.take_length] at this
  have := h.1
  have := h2.1
  omega

set_option maxHeartbeats 2000000 in
set_option maxRecDepth 100000 in
theorem use_any (B b : Nat) (A : Option Addr) (n c : Nat) (dry : Int) (s : Store) (a : Chore) (W : World) (h : Own B b A n c dry s W) (hu : Mild s.used) (hm : MildH s.heaps) (hper : ∀ x ∈ s.heaps, x.stage = 3 → 1 ≤ x.per ∧ x.per ≤ 100) :
    Calls Try.prog 103 #[ptr b, choreVal a] W (ShedOut B b A n c dry (if nameIdx a.name s.heaps < 0 then (7, s) else useP s (nameIdx a.name s.heaps).toNat a) W) := by
  obtain ⟨W1, hW1⟩ : ∃ W1, W1 = W.alloc (.cells (choreCells a) 64) := ⟨_, rfl⟩
  have hb0 : Below W.heap.size W W1 := by rw [hW1]; exact (Below.refl _ W).alloc (Nat.le_refl _) _
  have hB := h.bLe
  have h1 := Lib.hid (h.later hb0)
  have hrg := nameIdx_range a.name s.heaps
  obtain ⟨i, hi⟩ : ∃ i, i = nameIdx a.name s.heaps := ⟨_, rfl⟩
  rw [← hi] at hrg ⊢
  have hch : Hid (W1.cell? ⟨W.heap.size, 2, none⟩ = some (.int .i64 a.loads) ∧ W.heap.size < W1.heap.size) := by
    have e : W1.heap[W.heap.size]? = some (.cells (choreCells a) 64 (0, 0)) := by rw [hW1]; exact heap_new _ _ _ rfl
    exact ⟨by simp [World.cell?, e], (Array.getElem?_eq_some_iff.1 e).1⟩
  replace hb0 := Lib.hid hb0
  replace hW1 := Lib.hid hW1
  have d5 := (eight_cells h1.out.box).2.2.2.2.2.1
  have hrd := h1.out.rows.heapsRd
  by_cases hneg : i < 0
  · rw [if_pos hneg]
    have hc := Lib.hid (heap_no b s.ha s.hc s.heaps a.name W1 d5 hrd (hi ▸ hneg))
    clear hi hrd d5
    go_enter Try.func103, Try.ntmps103
    go_wp2_with fail
    rw [← hW1.out]
    go_wp2_with (go_at_call 122; refine hc.out.mono ?_; rintro e w2 ⟨rfl, hb2⟩)
    exact ⟨rfl, (hb0.out.mono hB).trans (hb2.mono (Nat.le_trans hB hb0.out.size)), .inl ⟨(by decide : (7 : Int) ≠ 0), rfl⟩⟩
  · rw [if_neg hneg]
    have hc := heap_ok b s.ha s.hc s.heaps a.name W1 d5 hrd (by omega)
    rw [← hi] at hc
    obtain ⟨k, hk⟩ : ∃ k : Nat, i = (k : Int) := ⟨i.toNat, by omega⟩
    subst hk
    rw [Int.toNat_natCast]
    have hkl : k < s.heaps.length := by omega
    replace hc := Lib.hid hc
    clear hi hrd d5 hneg
    go_enter Try.func103, Try.ntmps103
    go_wp2_with fail
    rw [← hW1.out]
    obtain ⟨H, hHe⟩ : ∃ H, H = s.heaps[k] := ⟨_, rfl⟩
    have hgd : s.heaps.getD k default = H := by rw [getD_lt _ hkl, ← hHe]
    have hpm : Mild H.parts := hHe ▸ hm.2 _ (List.getElem_mem hkl)
    have hpe : H.stage = 3 → 1 ≤ H.per ∧ H.per ≤ 100 := hHe ▸ hper _ (List.getElem_mem hkl)
    obtain ⟨ch2, chl⟩ := hch.out
    replace hgd := Lib.hid hgd
    replace hHe := Lib.hid hHe
    go_wp2_with (go_at_call 122; refine hc.out.mono ?_; rintro e w2 ⟨rfl, hb2⟩; have h2 := h1.out.later hb2; obtain ⟨g, hg, hH, hf, hgl⟩ := h2.hcells hkl; rw [← hHe.out] at hH; obtain ⟨x0, x1, x2, x3, x4, x5, x6⟩ := hH; have d5 := (eight_cells h2.box).2.2.2.2.2.1; rw [hg] at d5; have hbl := h2.size; have ch3 := (hb2.cell (p := ⟨W.heap.size, 2, none⟩) chl).trans ch2; have chl2 : W.heap.size < w2.heap.size := Nat.lt_of_lt_of_le chl hb2.size; replace h2 := Lib.hid h2; replace hg := Lib.hid hg)
    obtain ⟨W3, hW3⟩ : ∃ W3, W3 = w2.alloc (.cells (hcells H) 77) := ⟨_, rfl⟩
    rw [← hW3]
    have hb3 : Below w2.heap.size w2 W3 := by rw [hW3]; exact (Below.refl _ w2).alloc (Nat.le_refl _) _
    have hx : W3.heap[w2.heap.size]? = some (.cells (hcells H) 77 (0, 0)) := by rw [hW3]; exact heap_new _ _ _ rfl
    obtain ⟨m0, m1, m2, m3, m4, m5, m6⟩ := seven_cells hx
    have hxl := (Array.getElem?_eq_some_iff.1 hx).1
    have h3 := Lib.hid (h2.out.later hb3)
    have hb13 : Hid (Below B W W3) := ((hb0.out.mono hB).trans (hb2.mono (Nat.le_trans hB hb0.out.size))).trans (hb3.mono h2.out.bLe)
    have ch4 := (hb3.cell (p := ⟨W.heap.size, 2, none⟩) chl2).trans ch3
    have chl3 : W.heap.size < W3.heap.size := Nat.lt_of_lt_of_le chl2 hb3.size
    have hpr : RdParts W3 H.pa H.parts := hHe.out ▸ (h3.out.rows.parts _ (List.getElem_mem hkl)).1
    replace hW3 := Lib.hid hW3
    replace hx := Lib.hid hx
    clear x0 x1 x2 x3 x4 x5 x6 d5 ch2 ch3 hf hgl
    by_cases hst : H.stage = 3
    · have hstb : (H.stage == 3) = true := by simpa using hst
      rw [hstb]
      obtain ⟨pe1, pe2⟩ := hpe hst
      obtain ⟨sm, hsm⟩ : ∃ sm, sm = sumL H.parts := ⟨_, rfl⟩
      obtain ⟨sm1, sm2⟩ := hpm.sum
      rw [← hsm] at sm1 sm2
      obtain ⟨q, hq⟩ : ∃ q, q = sm / H.per := ⟨_, rfl⟩
      have q1 : 0 ≤ q := by rw [hq]; exact Int.ediv_nonneg sm1 (by omega)
      have q2 : q ≤ sm := by rw [hq]; exact Int.ediv_le_self _ sm1
      have q3 : q * H.per ≤ sm := by rw [hq]; exact Int.ediv_mul_le sm (by omega)
      have dv1 : Int.tdiv sm H.per = q := by rw [hq]; exact Int.tdiv_eq_ediv_of_nonneg sm1
      have dv2 : sm / H.per = q := hq.symm
      have w1' : IntKind.i64.wrap q = q := IntWalk.i64_in _ (by omega)
      have w2' : wrap64 q = q := by unfold wrap64; omega
      have hp0 : H.per ≠ 0 := by omega
      have hq68 : Hid (∀ W', Below W3.heap.size W3 W' → Calls Try.prog 68 #[.slice H.pa H.parts.length H.pc] W' fun e w' => e = .returned (.int .i64 sm) ∧ Below W'.heap.size W' w') := fun W' hW' => by rw [hsm]; exact sum_any _ _ _ _ (hpr.below hW') hpm
      have hq43 : Hid (∀ W', Calls Try.prog 43 #[.int .i64 a.loads, .int .i64 1, .int .i64 q] W' fun e w' => e = .returned (.bool (inB a.loads 1 q)) ∧ W' = w') := fun W' => in_any _ _ _ _
      have hkp : Hid (∀ W', Below W3.heap.size W3 W' → W'.cell? ⟨W.heap.size, 2, none⟩ = some (.int .i64 a.loads) ∧ W'.cell? ⟨w2.heap.size, 3, none⟩ = some (.slice H.pa H.parts.length H.pc) ∧ W'.cell? ⟨w2.heap.size, 4, none⟩ = some (.int .i64 H.per) ∧ Below W3.heap.size W3 W') := fun W' hW' =>
        ⟨(hW'.cell (p := ⟨W.heap.size, 2, none⟩) chl3).trans ch4, (hW'.cell (p := ⟨w2.heap.size, 3, none⟩) hxl).trans m3, (hW'.cell (p := ⟨w2.heap.size, 4, none⟩) hxl).trans m4, hW'⟩
      have hsm' : Hid (sumL H.parts = sm) := hsm.symm
      have hq' := Lib.hid hq
      clear hsm hq
      cases htst : inB a.loads 1 q with
      | false =>
        have hr : Hid (useP s k a = (1, s)) := by unfold Hid useP; rw [hgd.out, if_neg (by simpa using hst), hsm'.out, dv2, if_pos htst]
        go_wp2_with (go_at_call 75; (with_reducible refine (demand_on _ _).mono ?_); rintro e w4 ⟨rfl, rfl⟩)
        have B0 : Below W3.heap.size W3 W3.drew := (Below.refl _ _).drew
        have S0 := Lib.hid (hkp.out _ B0)
        go_region_held2 (fun w' => w'.cell? ⟨W.heap.size, 2, none⟩ = some (.int .i64 a.loads) ∧ w'.cell? ⟨w2.heap.size, 3, none⟩ = some (.slice H.pa H.parts.length H.pc) ∧ w'.cell? ⟨w2.heap.size, 4, none⟩ = some (.int .i64 H.per) ∧ Below W3.heap.size W3 w')
          (first | (with_reducible exact S0.out) | (with_reducible assumption) | (with_reducible exact hkp.out _ (by assumption)))
          (first | (go_at_call 68; (with_reducible refine (hq68.out _ (by assumption)).mono ?_); rintro e w6 ⟨rfl, hb6⟩; have h6 : Below W3.heap.size W3 w6 := Below.trans (by assumption) (hb6.mono (Below.size (by assumption)))) | (go_at_call 43; (with_reducible refine (hq43.out _).mono ?_); rintro e w6 ⟨rfl, rfl⟩; rw [htst]) | (go_at_call 75; (with_reducible refine demand_dies _ _ ?_ (fun hF => ?_)); focus (rw [hr.out]; exact ⟨rfl, hb13.out.trans (Below.mono (by assumption) h3.out.bLe), .inl ⟨(by decide : (1 : Int) ≠ 0), rfl⟩⟩)))
        all_goals exact hF.out.elim
      | true =>
        go_wp2_with (go_at_call 75; (with_reducible refine (demand_on _ _).mono ?_); rintro e w4 ⟨rfl, rfl⟩)
        have B0 : Below W3.heap.size W3 W3.drew := (Below.refl _ _).drew
        have S0 := Lib.hid (hkp.out _ B0)
        go_region_held3 (fun w' => w'.cell? ⟨W.heap.size, 2, none⟩ = some (.int .i64 a.loads) ∧ w'.cell? ⟨w2.heap.size, 3, none⟩ = some (.slice H.pa H.parts.length H.pc) ∧ w'.cell? ⟨w2.heap.size, 4, none⟩ = some (.int .i64 H.per) ∧ Below W3.heap.size W3 w')
          (first | (with_reducible exact S0.out) | (with_reducible assumption) | (with_reducible exact hkp.out _ (by assumption)))
          (first | (go_at_call 68; (with_reducible refine (hq68.out _ (by assumption)).mono ?_); rintro e w6 ⟨rfl, hb6⟩; have h6 : Below W3.heap.size W3 w6 := Below.trans (by assumption) (hb6.mono (Below.size (by assumption)))) | (go_at_call 43; (with_reducible refine (hq43.out _).mono ?_); rintro e w6 ⟨rfl, rfl⟩; rw [htst]) | (go_at_call 75; (with_reducible refine (demand_on _ _).mono ?_); rintro e w6 ⟨rfl, rfl⟩))
        have hr : Hid (useP s k a = (0, keepP { s with used := behindP s.used (cutF H.parts (a.loads * H.per)) } k (cutR H.parts (a.loads * H.per)))) := by unfold Hid useP; rw [hgd.out, if_neg (by simpa using hst), hsm'.out, dv2, if_neg (by rw [htst]; decide)]
        have hin := htst
        simp only [inB, Bool.and_eq_true, decide_eq_true_eq] at hin
        have hkp0 : 0 ≤ a.loads * H.per := Int.mul_nonneg (by omega) (by omega)
        have hkp1 : a.loads * H.per ≤ sm := by
          have := Int.mul_le_mul_of_nonneg_right (c := H.per) hin.2 (by omega)
          omega
        obtain ⟨N, hN⟩ : ∃ N, N = a.loads * H.per := ⟨_, rfl⟩
        rw [← hN] at hkp0 hkp1 hr
        have hNw : IntKind.i64.wrap (a.loads * H.per) = N := by rw [← hN]; exact IntWalk.i64_in _ (by omega)
        have hB6 : Below W3.heap.size W3 w6 := h6
        obtain ⟨v2, v3, v4, _⟩ := hkp.out _ hB6
        have hO6 := Lib.hid (h3.out.later hB6)
        have hcut := Lib.hid (cut_fresh H.pa H.pc H.parts N w6 (hpr.below hB6) hpm ⟨hkp0, by omega⟩)
        have hmc := hpm.cutF N
        have hlen := Lib.hid (behind_len hu hmc)
        replace hN := Lib.hid hN
        replace hB6 := Lib.hid hB6
        clear h6 ch4 m0 m1 m2 m3 m4 m5 m6
        have e6 := fun W' (h' : Own B b A n c dry s W') => (eight_cells h'.box).2.2.2.2.2.2.1
        replace e6 := Lib.hid e6
        go_wp2_with (first | (go_at_call 69; refine hcut.out.mono ?_; rintro e w7 ⟨A1, c1, A2, c2, rfl, p1, p2, hb7, n1, n2⟩; have h7 := hO6.out.later hb7; have y6 := e6.out _ h7; have bl7 := h7.size; have hbe := Lib.hid (behind_any s.ua A1 s.uc c1 s.used (cutF H.parts N) w7 h7.rows.used p1 hu hmc); replace h7 := Lib.hid h7; replace n1 := Lib.hid n1; replace n2 := Lib.hid n2; replace p1 := Lib.hid p1; replace p2 := Lib.hid p2) | (go_at_call 124; refine hbe.out.mono ?_; rintro e w8 ⟨A3, c3, rfl, hr8, hb8⟩; have h8 := h7.out.later hb8; have z6 := e6.out _ h8; have zf := h8.frozen 6; have bl8 := h8.size; have h9 := h8.usedTo c3 (hr8.rd hlen.out) (BehOut.off h7.out (Nat.le_refl _) hr8); have hkk := Lib.hid (keep_any B b A n c dry _ k A2 c2 (cutR H.parts N) _ h9.1 hkl (RdParts.keep (RdParts.below p2.out hb8) (fun j _ e => Below.heap_setCell _ _ _ _ (fun e1 => by have := n2.out j e; have e2 : j = b := e1; have := hO6.out.size; omega))) (fun x _ e => hO6.out.rows.newOff (n2.out x e))); replace h9 := Lib.hid h9; replace h8 := Lib.hid h8) | (go_at_call 125; refine hkk.out.mono ?_; rintro e w10 ⟨rfl, t, ht10, h10, hb10⟩))
        go_end0
        rw [hr.out]
        exact ⟨((((hb13.out.trans (hB6.out.mono h3.out.bLe)).trans (hb7.mono hO6.out.bLe)).trans (hb8.mono h7.out.bLe)).trans h9.out.2).trans hb10, .inr ⟨rfl, rfl, t, ht10.trans (by unfold keepP; split <;> exact ⟨rfl, rfl, rfl, rfl, rfl, rfl⟩), h10⟩⟩
    · have hstb : (H.stage == 3) = false := by simpa using hst
      rw [hstb]
      have hr : Hid (useP s k a = (8, s)) := by unfold Hid useP; rw [hgd.out, if_pos hst]
      go_wp2_with (go_at_call 75; (with_reducible refine (demand_no _ _).mono ?_); rintro e w4 ⟨rfl, rfl⟩)
      rw [hr.out]
      exact ⟨rfl, hb13.out, .inl ⟨(by decide : (8 : Int) ≠ 0), rfl⟩⟩
end Go.Proofs.Ytpgkhlpepckfgaa
end
section
namespace Go.Proofs.Ytpgkhlpepckfgaa
open Go.RowKit Go.Lib

/-- The heap with a name, of which there is none, for a region that draws its order. -/
theorem heap_dies (b : Nat) (hA : Option Addr) (hc : Nat) (l : List Heap) (nm : ByteArray) (w : World) {R : Ending → World → Prop} (h5 : w.cell? ⟨b, 5, none⟩ = some (.slice hA l.length hc)) (hl : RdHeaps w hA l) (hi : nameIdx nm l < 0)
    (hp : ∀ w', Below w.heap.size w w' → R (.panicked (errChain 7)) w') (_ : ∀ w', Below w.heap.size w w' → Hid False → R (.returned (.int .i64 0)) w') : Calls Try.prog 122 #[ptr b, .string nm] w R :=
  (heap_no b hA hc l nm w h5 hl hi).mono (by rintro _ w' ⟨rfl, h⟩; exact hp w' h)
theorem nine_cells {w : World} {b : Nat} {v0 v1 v2 v3 v4 v5 v6 v7 v8 : Value} {t : TypeId} (h : w.heap[b]? = some (.cells #[v0, v1, v2, v3, v4, v5, v6, v7, v8] t (0, 0))) : w.cell? ⟨b, 0, none⟩ = some v0 ∧ w.cell? ⟨b, 1, none⟩ = some v1 ∧ w.cell? ⟨b, 2, none⟩ = some v2 ∧ w.cell? ⟨b, 3, none⟩ = some v3 ∧ w.cell? ⟨b, 4, none⟩ = some v4 ∧ w.cell? ⟨b, 5, none⟩ = some v5 ∧ w.cell? ⟨b, 6, none⟩ = some v6 ∧ w.cell? ⟨b, 7, none⟩ = some v7 ∧ w.cell? ⟨b, 8, none⟩ = some v8 := by
  refine ⟨?_, ?_, ?_, ?_, ?_, ?_, ?_, ?_, ?_⟩ <;> simp [World.cell?, h]

set_option maxHeartbeats 2000000 in
set_option maxRecDepth 100000 in
theorem comb_any (B b : Nat) (A : Option Addr) (n c : Nat) (dry : Int) (s : Store) (a : Chore) (W : World) (h : Own B b A n c dry s W) (hw : Mild s.waste) (hm : MildH s.heaps) :
    Calls Try.prog 97 #[ptr b, choreVal a] W (ShedOut B b A n c dry (if nameIdx a.name s.heaps < 0 then (7, s) else combP dry s (nameIdx a.name s.heaps).toNat a) W) := by
  obtain ⟨W1, hW1⟩ : ∃ W1, W1 = W.alloc (.cells (choreCells a) 64) := ⟨_, rfl⟩
  have hb0 : Below W.heap.size W W1 := by rw [hW1]; exact (Below.refl _ W).alloc (Nat.le_refl _) _
  have hB := h.bLe
  have h1 := Lib.hid (h.later hb0)
  have hrg := nameIdx_range a.name s.heaps
  obtain ⟨i, hi⟩ : ∃ i, i = nameIdx a.name s.heaps := ⟨_, rfl⟩
  rw [← hi] at hrg ⊢
  have hch : Hid (W1.heap[W.heap.size]? = some (.cells (choreCells a) 64 (0, 0))) := by unfold Hid; rw [hW1]; exact heap_new _ _ _ rfl
  have chl := (Array.getElem?_eq_some_iff.1 hch.out).1
  have hbl := h1.out.size
  replace hb0 := Lib.hid hb0
  replace hW1 := Lib.hid hW1
  have B0 : Below W1.heap.size W1 W1.drew := (Below.refl _ _).drew
  by_cases hneg : i < 0
  · rw [if_pos hneg]
    have hkp : Hid (∀ W', Below W1.heap.size W1 W' → W'.cell? ⟨b, 5, none⟩ = some (.slice s.ha s.heaps.length s.hc) ∧ W'.cell? ⟨W.heap.size, 3, none⟩ = some (.string a.name) ∧ Below W1.heap.size W1 W') := fun W' hW' =>
      ⟨(eight_cells (h1.out.later hW').box).2.2.2.2.2.1, (nine_cells ((hW'.block _ chl).trans hch.out)).2.2.2.1, hW'⟩
    have hdie : Hid (∀ W', Below W1.heap.size W1 W' → ∀ R : Ending → World → Prop, (∀ w', Below W'.heap.size W' w' → R (.panicked (errChain 7)) w') → (∀ w', Below W'.heap.size W' w' → Hid False → R (.returned (.int .i64 0)) w') → Calls Try.prog 122 #[ptr b, .string a.name] W' R) := fun W' hW' R hp hd =>
      heap_dies b s.ha s.hc s.heaps a.name W' (hkp.out _ hW').1 (h1.out.later hW').rows.heapsRd (hi ▸ hneg) hp hd
    have S0 := Lib.hid (hkp.out _ B0)
    replace hi := Lib.hid hi
    go_enter Try.func97, Try.ntmps97
    go_wp2_with fail
    rw [← hW1.out]
    go_region_held2 (fun w' => w'.cell? ⟨b, 5, none⟩ = some (.slice s.ha s.heaps.length s.hc) ∧ w'.cell? ⟨W.heap.size, 3, none⟩ = some (.string a.name) ∧ Below W1.heap.size W1 w')
      (first | (with_reducible exact S0.out) | (with_reducible assumption) | (with_reducible exact hkp.out _ (by assumption)))
      (first | (go_at_call 122; (with_reducible refine hdie.out _ (by assumption) _ (fun w6 hb6 => ?_) (fun w6 hb6 hF => ?_)); (focus (exact ⟨rfl, ((hb0.out.mono hB).trans (Below.mono (by assumption) h1.out.bLe)).trans (hb6.mono (Nat.le_trans h1.out.bLe (Below.size (by assumption)))), .inl ⟨(by decide : (7 : Int) ≠ 0), rfl⟩⟩)); have h6 : Below W1.heap.size W1 w6 := Below.trans (by assumption) (hb6.mono (Below.size (by assumption))); have hfk : s.ha = some ⟨0, 0, none⟩ := hF.out.elim; have hfl : 0 < s.heaps.length := hF.out.elim))
    all_goals exact hF.out.elim
  · rw [if_neg hneg]
    obtain ⟨k, hk⟩ : ∃ k : Nat, i = (k : Int) := ⟨i.toNat, by omega⟩
    subst hk
    rw [Int.toNat_natCast]
    have hkl : k < s.heaps.length := by omega
    obtain ⟨g, hg, _, _, _⟩ := h1.out.hcells hkl
    have hg' := Lib.hid hg
    have hkp : Hid (∀ W', Below W1.heap.size W1 W' → W'.cell? ⟨b, 5, none⟩ = some (.slice (some ⟨g, 0, none⟩) s.heaps.length s.hc) ∧ W'.cell? ⟨W.heap.size, 3, none⟩ = some (.string a.name) ∧ Below W1.heap.size W1 W') := fun W' hW' =>
      ⟨by rw [← hg]; exact (eight_cells (h1.out.later hW').box).2.2.2.2.2.1, (nine_cells ((hW'.block _ chl).trans hch.out)).2.2.2.1, hW'⟩
    have hc : Hid (∀ W', Below W1.heap.size W1 W' → Calls Try.prog 122 #[ptr b, .string a.name] W' fun e w' => e = .returned (.int .i64 k) ∧ Below W'.heap.size W' w') := fun W' hW' => by
      have := heap_ok b s.ha s.hc s.heaps a.name W' (by rw [hg]; exact (hkp.out _ hW').1) (h1.out.later hW').rows.heapsRd (by omega)
      rw [← hi] at this
      exact this
    have S0 := Lib.hid (hkp.out _ B0)
    replace hi := Lib.hid hi
    clear hg
    go_enter Try.func97, Try.ntmps97
    go_wp2_with fail
    rw [← hW1.out]
    go_region_held3 (fun w' => w'.cell? ⟨b, 5, none⟩ = some (.slice (some ⟨g, 0, none⟩) s.heaps.length s.hc) ∧ w'.cell? ⟨W.heap.size, 3, none⟩ = some (.string a.name) ∧ Below W1.heap.size W1 w')
      (first | (with_reducible exact S0.out) | (with_reducible assumption) | (with_reducible exact hkp.out _ (by assumption)))
      (first | (go_at_call 122; (with_reducible refine (hc.out _ (by assumption)).mono ?_); rintro e w6 ⟨rfl, hb6⟩; have h6 : Below W1.heap.size W1 w6 := Below.trans (by assumption) (hb6.mono (Below.size (by assumption)))))
    have hb16 : Hid (Below B W w6) := ((hb0.out.mono hB).trans (h6.mono h1.out.bLe))
    have hO6 := Lib.hid (h1.out.later h6)
    obtain ⟨H, hHe⟩ : ∃ H, H = s.heaps[k] := ⟨_, rfl⟩
    have hgd : s.heaps.getD k default = H := by rw [getD_lt _ hkl, ← hHe]
    have hpm : Mild H.parts := hHe ▸ hm.2 _ (List.getElem_mem hkl)
    have hpr : RdParts w6 H.pa H.parts := hHe ▸ (hO6.out.rows.parts _ (List.getElem_mem hkl)).1
    have hHc : HCells g k H w6 := hHe ▸ hO6.out.hcellsG hg'.out hkl
    have ch6 : w6.heap[W.heap.size]? = some (.cells (choreCells a) 64 (0, 0)) := (h6.block _ chl).trans hch.out
    have chl6 : W.heap.size < w6.heap.size := Nat.lt_of_lt_of_le chl h6.size
    have gl6 : g < w6.heap.size := (hO6.out.heapNe hg'.out).2.2
    have hkq : Hid (∀ W', Below w6.heap.size w6 W' → W'.cell? ⟨b, 1, none⟩ = some (.int .i64 dry) ∧ W'.cell? ⟨g, k * 7 + 2, none⟩ = some (.int .i64 H.stage) ∧ W'.cell? ⟨g, k * 7 + 6, none⟩ = some (.int .i64 H.wet.hi) ∧ W'.cell? ⟨g, k * 7 + 3, none⟩ = some (.slice H.pa H.parts.length H.pc) ∧ W'.cell? ⟨W.heap.size, 2, none⟩ = some (.int .i64 a.loads) ∧ Below w6.heap.size w6 W') := fun W' hW' =>
      ⟨(eight_cells (hO6.out.later hW').box).2.1, (hW'.cell (p := ⟨g, k * 7 + 2, none⟩) gl6).trans hHc.stage, (hW'.cell (p := ⟨g, k * 7 + 6, none⟩) gl6).trans hHc.hi, (hW'.cell (p := ⟨g, k * 7 + 3, none⟩) gl6).trans hHc.parts, (nine_cells ((hW'.block _ chl6).trans ch6)).2.2.1, hW'⟩
    clear hkp hc S0 B0 chl hHc ch6 chl6 gl6
    replace hgd := Lib.hid hgd
    replace hHe := Lib.hid hHe
    replace h6 := Lib.hid h6
    have B1 : Below w6.heap.size w6 w6.drew := (Below.refl _ _).drew
    have S1 := Lib.hid (hkq.out _ B1)
    go_wp2
    by_cases t1 : H.stage = 1
    · have t1b : (H.stage == 1) = true := by simpa using t1
      by_cases t2 : H.wet.hi ≤ dry
      · have t2b : decide (H.wet.hi ≤ dry) = true := decide_eq_true t2
        obtain ⟨_, v2, v6, _⟩ := hkq.out _ (Below.refl _ _)
        have v1 := (hkq.out _ (Below.refl _ _)).1
        go_big_quiet (first | (go_at_call 75; exact Calls.quiet_of_same (demand_ok _ _)))
        obtain ⟨w7, hw7⟩ : ∃ w7, w7 = w6.drewN nq := ⟨_, rfl⟩
        rw [← hw7]
        go_wp2
        have hb67 : Below w6.heap.size w6 w7 := by rw [hw7]; exact below_drewN_ _ _
        replace hw7 := Lib.hid hw7
        obtain ⟨sm, hsm⟩ : ∃ sm, sm = sumL H.parts := ⟨_, rfl⟩
        obtain ⟨sm1, sm2⟩ := hpm.sum
        rw [← hsm] at sm1 sm2
        have hwr : IntKind.i64.wrap (sm - 1) = sm - 1 := IntWalk.i64_in _ (by omega)
        have hq68 : Hid (∀ W', Below w6.heap.size w6 W' → Calls Try.prog 68 #[.slice H.pa H.parts.length H.pc] W' fun e w' => e = .returned (.int .i64 sm) ∧ Below W'.heap.size W' w') := fun W' hW' => by rw [hsm]; exact sum_any _ _ _ _ (hpr.below hW') hpm
        have hq43 : Hid (∀ W', Calls Try.prog 43 #[.int .i64 a.loads, .int .i64 0, .int .i64 (sm - 1)] W' fun e w' => e = .returned (.bool (inB a.loads 0 (sm - 1))) ∧ W' = w') := fun W' => in_any _ _ _ _
        have hsm' : Hid (sumL H.parts = sm) := hsm.symm
        clear hsm
        have B2 : Below w6.heap.size w6 w7.drew := hb67.drew
        have S2 := Lib.hid (hkq.out _ B2)
        replace hb67 := Lib.hid hb67
        cases htst : inB a.loads 0 (sm - 1) with
        | false =>
          have hr : Hid (combP dry s k a = (1, s)) := by unfold Hid combP; rw [hgd.out, if_neg (by simp [t1, t2]), hsm'.out, if_pos htst]
          clear v1 v2 v6
          go_region_held2 (fun w' => w'.cell? ⟨b, 1, none⟩ = some (.int .i64 dry) ∧ w'.cell? ⟨g, k * 7 + 2, none⟩ = some (.int .i64 H.stage) ∧ w'.cell? ⟨g, k * 7 + 6, none⟩ = some (.int .i64 H.wet.hi) ∧ w'.cell? ⟨g, k * 7 + 3, none⟩ = some (.slice H.pa H.parts.length H.pc) ∧ w'.cell? ⟨W.heap.size, 2, none⟩ = some (.int .i64 a.loads) ∧ Below w6.heap.size w6 w')
            (first | (with_reducible exact S2.out) | (with_reducible assumption) | (with_reducible exact hkq.out _ (by assumption)))
            (first | (go_at_call 68; (with_reducible refine (hq68.out _ (by assumption)).mono ?_); rintro e w8 ⟨rfl, hb8⟩; have h8 : Below w6.heap.size w6 w8 := Below.trans (by assumption) (hb8.mono (Below.size (by assumption)))) | (go_at_call 43; (with_reducible refine (hq43.out _).mono ?_); rintro e w8 ⟨rfl, rfl⟩; rw [htst]) | (go_at_call 75; (with_reducible refine demand_dies _ _ ?_ (fun hF => ?_)); focus (rw [hr.out]; exact ⟨rfl, hb16.out.trans (Below.mono (by assumption) hO6.out.bLe), .inl ⟨(by decide : (1 : Int) ≠ 0), rfl⟩⟩)))
          all_goals exact hF.out.elim
        | true =>
          have hr : Hid (combP dry s k a = (0, { s with waste := behindP s.waste (cutF H.parts a.loads), heaps := s.heaps.set k (stageH (setPartsH H (cutR H.parts a.loads)) 2) })) := by unfold Hid combP; rw [hgd.out, if_neg (by simp [t1, t2]), hsm'.out, if_neg (by rw [htst]; decide)]
          have hin := htst
          simp only [inB, Bool.and_eq_true, decide_eq_true_eq] at hin
          clear v1 v2 v6
          go_region_held3 (fun w' => w'.cell? ⟨b, 1, none⟩ = some (.int .i64 dry) ∧ w'.cell? ⟨g, k * 7 + 2, none⟩ = some (.int .i64 H.stage) ∧ w'.cell? ⟨g, k * 7 + 6, none⟩ = some (.int .i64 H.wet.hi) ∧ w'.cell? ⟨g, k * 7 + 3, none⟩ = some (.slice H.pa H.parts.length H.pc) ∧ w'.cell? ⟨W.heap.size, 2, none⟩ = some (.int .i64 a.loads) ∧ Below w6.heap.size w6 w')
            (first | (with_reducible exact S2.out) | (with_reducible assumption) | (with_reducible exact hkq.out _ (by assumption)))
            (first | (go_at_call 68; (with_reducible refine (hq68.out _ (by assumption)).mono ?_); rintro e w8 ⟨rfl, hb8⟩; have h8 : Below w6.heap.size w6 w8 := Below.trans (by assumption) (hb8.mono (Below.size (by assumption)))) | (go_at_call 43; (with_reducible refine (hq43.out _).mono ?_); rintro e w8 ⟨rfl, rfl⟩; rw [htst]) | (go_at_call 75; (with_reducible refine (demand_on _ _).mono ?_); rintro e w8 ⟨rfl, rfl⟩))
          have B3 : Below w6.heap.size w6 w8.drew := h8.drew
          have S3 := Lib.hid (hkq.out _ B3)
          have hcut : Hid (∀ W', Below w6.heap.size w6 W' → Calls Try.prog 69 #[.slice H.pa H.parts.length H.pc, .int .i64 a.loads] W' (CutOutF H.parts a.loads W')) := fun W' hW' => cut_fresh H.pa H.pc H.parts a.loads W' (hpr.below hW') hpm ⟨hin.1, by omega⟩
          replace h8 := Lib.hid h8
          go_wp2
          go_region_held3 (fun w' => w'.cell? ⟨b, 1, none⟩ = some (.int .i64 dry) ∧ w'.cell? ⟨g, k * 7 + 2, none⟩ = some (.int .i64 H.stage) ∧ w'.cell? ⟨g, k * 7 + 6, none⟩ = some (.int .i64 H.wet.hi) ∧ w'.cell? ⟨g, k * 7 + 3, none⟩ = some (.slice H.pa H.parts.length H.pc) ∧ w'.cell? ⟨W.heap.size, 2, none⟩ = some (.int .i64 a.loads) ∧ Below w6.heap.size w6 w')
            (first | (with_reducible exact S3.out) | (with_reducible assumption) | (with_reducible exact hkq.out _ (by assumption)))
            (first | (go_at_call 69; (with_reducible refine (hcut.out _ (by assumption)).mono ?_); rintro e w9 ⟨A1, c1, A2, c2, rfl, p1, p2, hb9, n1, n2⟩; have h9 : Below w6.heap.size w6 w9 := Below.trans (by assumption) (hb9.mono (Below.size (by assumption)))))
          have hO9 := Lib.hid (hO6.out.later h9)
          have y7 := (eight_cells hO9.out.box).2.2.2.2.2.2.2
          have bl9 := hO9.out.size
          have hmc := hpm.cutF a.loads
          have hlen := Lib.hid (behind_len hw hmc)
          have hbe := Lib.hid (behind_any s.wa A1 s.wc c1 s.waste (cutF H.parts a.loads) w9 hO9.out.rows.waste p1 hw hmc)
          have hb19 : Hid (Below B W w9) := hb16.out.trans (h9.mono hO6.out.bLe)
          have n2' : Hid (∀ x, blk A2 = some x → w6.heap.size ≤ x) := fun x e => Nat.le_trans h8.out.size (n2 x e)
          replace h9 := Lib.hid h9
          replace n1 := Lib.hid n1
          replace p2 := Lib.hid p2
          go_wp2_with (go_at_call 124; refine hbe.out.mono ?_; rintro e w10 ⟨A3, c3, rfl, hr10, hb10⟩; have h10 := hO9.out.later hb10; have z7 := (eight_cells h10.box).2.2.2.2.2.2.2; have zf := h10.frozen 7; have bl10 := h10.size; have hgg := h10.heapNe hg'.out; obtain ⟨gn1, gn2, gn3⟩ := hgg; have zc := h10.hcellsG hg'.out hkl; rw [← hHe.out] at zc; have zs := zc.stage; have zp := zc.parts; have zfz := fun j => World.ownsRow.frozenAt (show w10.ownsRow B 77 7 (.slice (some ⟨g, 0, none⟩) s.heaps.length s.hc) s.heaps.length (s.heaps.flatMap encHeap) by have := h10.rows.heaps; rw [hg'.out] at this; exact this) j; have zf2 := zfz (k * 7 + 2); have zf3 := zfz (k * 7 + 3); clear zfz zc; replace h10 := Lib.hid h10)
          go_end0
          have h11 := h10.out.wasteTo c3 (hr10.rd hlen.out) (BehOut.off hO9.out (Nat.le_refl _) hr10)
          have hp2 : RdParts w10 A2 (cutR H.parts a.loads) := RdParts.below p2.out hb10
          have ho2 : ∀ x, cutR H.parts a.loads ≠ [] → blk A2 = some x → Off s (some b) x := fun x _ e => hO6.out.rows.newOff (n2'.out x e)
          have hnm : s.heaps[k].name.size ≤ 140737488351232 := (h10.out.rows.parts _ (List.getElem_mem hkl)).2
          have h12 := h11.1.heapTo (j := 3) (u := .slice A2 (cutR H.parts a.loads).length c2) (y := { s.heaps[k] with parts := cutR H.parts a.loads, pa := A2, pc := c2 }) hg'.out hkl (by decide) rfl ⟨⟨RdParts.keep hp2 (fun j _ e => Below.heap_setCell _ _ _ _ (fun e1 => by have := n2'.out j e; have e2 : j = b := e1; have := hO6.out.size; omega)), hnm⟩, ho2⟩
          have hkl2 : k < (s.heaps.set k { s.heaps[k] with parts := cutR H.parts a.loads, pa := A2, pc := c2 }).length := by rw [List.length_set]; exact hkl
          have h13 := h12.1.heapTo (j := 2) (u := .int .i64 2) (y := { s.heaps[k] with parts := cutR H.parts a.loads, pa := A2, pc := c2, stage := 2 }) hg'.out hkl2 (by decide) (by simp [encHeap]) ⟨⟨RdParts.keep (RdParts.keep hp2 (fun j _ e => Below.heap_setCell _ _ _ _ (fun e1 => by have := n2'.out j e; have e2 : j = b := e1; have := hO6.out.size; omega))) (fun j _ e => Below.heap_setCell _ _ _ _ (fun e1 => by have := n2'.out j e; have e2 : j = g := e1; have := (hO6.out.heapNe hg'.out).2.2; omega)), hnm⟩, ho2⟩
          rw [hr.out]
          refine ⟨((((hb19.out.trans (hb10.mono hO9.out.bLe)).trans h11.2).trans h12.2).trans h13.2), .inr ⟨rfl, rfl, _, ?_, h13.1⟩⟩
          refine ⟨rfl, rfl, rfl, ?_, rfl, rfl⟩
          show List.map bareH ((s.heaps.set k _).set k _) = _
          rw [List.set_set, List.map_set, List.map_set, hHe.out]
          rfl
      · have t2b : decide (H.wet.hi ≤ dry) = false := decide_eq_false t2
        have hr : Hid (combP dry s k a = (8, s)) := by unfold Hid combP; rw [hgd.out, if_pos (by simp [t2])]
        go_region_held2 (fun w' => w'.cell? ⟨b, 1, none⟩ = some (.int .i64 dry) ∧ w'.cell? ⟨g, k * 7 + 2, none⟩ = some (.int .i64 H.stage) ∧ w'.cell? ⟨g, k * 7 + 6, none⟩ = some (.int .i64 H.wet.hi) ∧ w'.cell? ⟨g, k * 7 + 3, none⟩ = some (.slice H.pa H.parts.length H.pc) ∧ w'.cell? ⟨W.heap.size, 2, none⟩ = some (.int .i64 a.loads) ∧ Below w6.heap.size w6 w')
          (first | (with_reducible exact S1.out) | (with_reducible assumption) | (with_reducible exact hkq.out _ (by assumption)))
          (first | (go_at_call 75; (with_reducible refine demand_dies _ _ ?_ (fun hF => ?_)); focus (rw [hr.out]; exact ⟨rfl, hb16.out.drew, .inl ⟨(by decide : (8 : Int) ≠ 0), rfl⟩⟩)))
        all_goals exact hF.out.elim
    · have t1b : (H.stage == 1) = false := by simpa using t1
      have hr : Hid (combP dry s k a = (8, s)) := by unfold Hid combP; rw [hgd.out, if_pos (by simp [t1])]
      obtain ⟨_, v2, v6, _⟩ := hkq.out _ (Below.refl _ _)
      refine wp_region_last 18 rfl (by kernel_rfl) (by kernel_rfl) ?_
      simp only [List.take_succ_cons, List.take_zero]
      repeat (go_big_quiet_step (fail))
      refine wpQuiet_nil ?_
      rintro _ ⟨nq, rfl⟩
      go_simp
      (with_reducible refine (demand_no _ _).mono ?_)
      rintro e w8 ⟨rfl, rfl⟩
      rw [hr.out]
      exact ⟨rfl, hb16.out.trans (below_drewN_ _ _), .inl ⟨(by decide : (8 : Int) ≠ 0), rfl⟩⟩
end Go.Proofs.Ytpgkhlpepckfgaa
end
section
namespace Go.Proofs.Ytpgkhlpepckfgaa
open Go.RowKit Go.Lib

set_option maxHeartbeats 2000000 in
set_option maxRecDepth 100000 in
theorem wet_any (n : Int) (W : World) : Calls Try.prog 123 #[.int .i64 n] W fun e w' => e = .returned (.int .i64 (clampP n)) ∧ w' = W := by
  have h1 : ∀ (w : World) (ts : Array TypeId) (t : TypeId), (Builtin.max_ ts t #[.int .i64 n, .int .i64 0]).run Try.prog w = .ok (.int .i64 (max n 0)) w := fun w ts t => run_max_ints w ts t _ _ _ _
  have h2 : ∀ (w : World) (ts : Array TypeId) (t : TypeId), (Builtin.min_ ts t #[.int .i64 (max n 0), .int .i64 1000]).run Try.prog w = .ok (.int .i64 (clampP n)) w := fun w ts t => run_min_ints w ts t _ _ _ _
  go_enter Try.func123, Try.ntmps123
  go_wp2
  go_ret
  exact ⟨rfl, rfl⟩

set_option maxHeartbeats 2000000 in
set_option maxRecDepth 100000 in
theorem dry_any (B b : Nat) (A : Option Addr) (n c : Nat) (dry : Int) (s : Store) (a : Chore) (W : World) (h : Own B b A n c dry s W) (hwet : ∀ x ∈ s.heaps, 0 ≤ x.wet.lo ∧ x.wet.lo ≤ x.wet.hi ∧ x.wet.hi ≤ 1000) :
    Calls Try.prog 95 #[ptr b, choreVal a] W (ShedOut B b A n c dry (if nameIdx a.name s.heaps < 0 then (7, s) else dryP s (nameIdx a.name s.heaps).toNat a) W) := by
  obtain ⟨W1, hW1⟩ : ∃ W1, W1 = W.alloc (.cells (choreCells a) 64) := ⟨_, rfl⟩
  have hb0 : Below W.heap.size W W1 := by rw [hW1]; exact (Below.refl _ W).alloc (Nat.le_refl _) _
  have hB := h.bLe
  have h1 := Lib.hid (h.later hb0)
  have hrg := nameIdx_range a.name s.heaps
  obtain ⟨i, hi⟩ : ∃ i, i = nameIdx a.name s.heaps := ⟨_, rfl⟩
  rw [← hi] at hrg ⊢
  have hch : Hid (W1.heap[W.heap.size]? = some (.cells (choreCells a) 64 (0, 0))) := by unfold Hid; rw [hW1]; exact heap_new _ _ _ rfl
  have chl := (Array.getElem?_eq_some_iff.1 hch.out).1
  have hbl := h1.out.size
  replace hb0 := Lib.hid hb0
  replace hW1 := Lib.hid hW1
  have B0 : Below W1.heap.size W1 W1.drew := (Below.refl _ _).drew
  by_cases hneg : i < 0
  · rw [if_pos hneg]
    have hkp : Hid (∀ W', Below W1.heap.size W1 W' → W'.cell? ⟨b, 5, none⟩ = some (.slice s.ha s.heaps.length s.hc) ∧ W'.cell? ⟨W.heap.size, 3, none⟩ = some (.string a.name) ∧ Below W1.heap.size W1 W') := fun W' hW' =>
      ⟨(eight_cells (h1.out.later hW').box).2.2.2.2.2.1, (nine_cells ((hW'.block _ chl).trans hch.out)).2.2.2.1, hW'⟩
    have hdie : Hid (∀ W', Below W1.heap.size W1 W' → ∀ R : Ending → World → Prop, (∀ w', Below W'.heap.size W' w' → R (.panicked (errChain 7)) w') → (∀ w', Below W'.heap.size W' w' → Hid False → R (.returned (.int .i64 0)) w') → Calls Try.prog 122 #[ptr b, .string a.name] W' R) := fun W' hW' R hp hd =>
      heap_dies b s.ha s.hc s.heaps a.name W' (hkp.out _ hW').1 (h1.out.later hW').rows.heapsRd (hi ▸ hneg) hp hd
    have S0 := Lib.hid (hkp.out _ B0)
    replace hi := Lib.hid hi
    go_enter Try.func95, Try.ntmps95
    go_wp2_with fail
    rw [← hW1.out]
    go_region_held2 (fun w' => w'.cell? ⟨b, 5, none⟩ = some (.slice s.ha s.heaps.length s.hc) ∧ w'.cell? ⟨W.heap.size, 3, none⟩ = some (.string a.name) ∧ Below W1.heap.size W1 w')
      (first | (with_reducible exact S0.out) | (with_reducible assumption) | (with_reducible exact hkp.out _ (by assumption)))
      (first | (go_at_call 122; (with_reducible refine hdie.out _ (by assumption) _ (fun w6 hb6 => ?_) (fun w6 hb6 hF => ?_)); (focus (exact ⟨rfl, ((hb0.out.mono hB).trans (Below.mono (by assumption) h1.out.bLe)).trans (hb6.mono (Nat.le_trans h1.out.bLe (Below.size (by assumption)))), .inl ⟨(by decide : (7 : Int) ≠ 0), rfl⟩⟩)); have h6 : Below W1.heap.size W1 w6 := Below.trans (by assumption) (hb6.mono (Below.size (by assumption))); have hfk : s.ha = some ⟨0, 0, none⟩ := hF.out.elim; have hfl : 0 < s.heaps.length := hF.out.elim))
    all_goals exact hF.out.elim
  · rw [if_neg hneg]
    obtain ⟨k, hk⟩ : ∃ k : Nat, i = (k : Int) := ⟨i.toNat, by omega⟩
    subst hk
    rw [Int.toNat_natCast]
    have hkl : k < s.heaps.length := by omega
    obtain ⟨g, hg, _, _, _⟩ := h1.out.hcells hkl
    have hg' := Lib.hid hg
    have hkp : Hid (∀ W', Below W1.heap.size W1 W' → W'.cell? ⟨b, 5, none⟩ = some (.slice (some ⟨g, 0, none⟩) s.heaps.length s.hc) ∧ W'.cell? ⟨W.heap.size, 3, none⟩ = some (.string a.name) ∧ Below W1.heap.size W1 W') := fun W' hW' =>
      ⟨by rw [← hg]; exact (eight_cells (h1.out.later hW').box).2.2.2.2.2.1, (nine_cells ((hW'.block _ chl).trans hch.out)).2.2.2.1, hW'⟩
    have hc : Hid (∀ W', Below W1.heap.size W1 W' → Calls Try.prog 122 #[ptr b, .string a.name] W' fun e w' => e = .returned (.int .i64 k) ∧ Below W'.heap.size W' w') := fun W' hW' => by
      have := heap_ok b s.ha s.hc s.heaps a.name W' (by rw [hg]; exact (hkp.out _ hW').1) (h1.out.later hW').rows.heapsRd (by omega)
      rw [← hi] at this
      exact this
    have S0 := Lib.hid (hkp.out _ B0)
    replace hi := Lib.hid hi
    clear hg
    go_enter Try.func95, Try.ntmps95
    go_wp2_with fail
    rw [← hW1.out]
    go_region_held3 (fun w' => w'.cell? ⟨b, 5, none⟩ = some (.slice (some ⟨g, 0, none⟩) s.heaps.length s.hc) ∧ w'.cell? ⟨W.heap.size, 3, none⟩ = some (.string a.name) ∧ Below W1.heap.size W1 w')
      (first | (with_reducible exact S0.out) | (with_reducible assumption) | (with_reducible exact hkp.out _ (by assumption)))
      (first | (go_at_call 122; (with_reducible refine (hc.out _ (by assumption)).mono ?_); rintro e w6 ⟨rfl, hb6⟩; have h6 : Below W1.heap.size W1 w6 := Below.trans (by assumption) (hb6.mono (Below.size (by assumption)))))
    have hb16 : Hid (Below B W w6) := ((hb0.out.mono hB).trans (h6.mono h1.out.bLe))
    have hO6 := Lib.hid (h1.out.later h6)
    obtain ⟨H, hHe⟩ : ∃ H, H = s.heaps[k] := ⟨_, rfl⟩
    have hgd : s.heaps.getD k default = H := by rw [getD_lt _ hkl, ← hHe]
    obtain ⟨wl1, wl2, wl3⟩ := hHe ▸ hwet _ (List.getElem_mem hkl)
    have hHc : HCells g k H w6 := hHe ▸ hO6.out.hcellsG hg'.out hkl
    have ch6 : w6.heap[W.heap.size]? = some (.cells (choreCells a) 64 (0, 0)) := (h6.block _ chl).trans hch.out
    have chl6 : W.heap.size < w6.heap.size := Nat.lt_of_lt_of_le chl h6.size
    have gl6 : g < w6.heap.size := (hO6.out.heapNe hg'.out).2.2
    obtain ⟨_, _, x2, _, _, x5, x6⟩ := hHc
    obtain ⟨_, _, _, _, _, y5, _, y7, y8⟩ := nine_cells ch6
    have hfz := fun j => World.ownsRow.frozenAt (show w6.ownsRow B 77 7 (.slice (some ⟨g, 0, none⟩) s.heaps.length s.hc) s.heaps.length (s.heaps.flatMap encHeap) by have := hO6.out.rows.heaps; rw [hg'.out] at this; exact this) j
    have zf5 := hfz (k * 7 + 5)
    have zf6 := hfz (k * 7 + 6)
    have hpo := Lib.hid (hO6.out.rows.old (List.getElem_mem hkl))
    clear hkp hc S0 B0 chl ch6 hfz
    replace hgd := Lib.hid hgd
    replace hHe := Lib.hid hHe
    replace h6 := Lib.hid h6
    by_cases t1 : H.stage = 3
    · have t1b : (H.stage != 3) = false := by simp [t1]
      have hr : Hid (dryP s k a = (8, s)) := by unfold Hid dryP; rw [hgd.out, if_pos t1]
      go_wp2_with (go_at_call 75; (with_reducible refine (demand_no _ _).mono ?_); rintro e w8 ⟨rfl, rfl⟩)
      rw [hr.out]
      exact ⟨rfl, hb16.out, .inl ⟨(by decide : (8 : Int) ≠ 0), rfl⟩⟩
    · have t1b : (H.stage != 3) = true := by simpa using t1
      have q43 := Lib.hid (in_any a.days 0 365 w6)
      have q55 := Lib.hid (spans_any a.rain.lo a.rain.hi 0 100 w6)
      cases t2 : inB a.days 0 365 with
      | false =>
        have hr : Hid (dryP s k a = (1, s)) := by unfold Hid dryP; rw [hgd.out, if_neg t1, if_pos (by rw [t2]; simp)]
        go_wp2_with (first | (go_at_call 75; (with_reducible refine (demand_on _ _).mono ?_); rintro e w8 ⟨rfl, rfl⟩) | (go_at_call 43; (with_reducible refine q43.out.mono ?_); rintro e w8 ⟨rfl, rfl⟩; rw [t2]) | (go_at_call 75; (with_reducible refine (demand_no _ _).mono ?_); rintro e w8 ⟨rfl, rfl⟩))
        rw [hr.out]
        exact ⟨rfl, hb16.out, .inl ⟨(by decide : (1 : Int) ≠ 0), rfl⟩⟩
      | true =>
        cases t3 : spanB a.rain.lo a.rain.hi 0 100 with
        | false =>
          have hr : Hid (dryP s k a = (1, s)) := by unfold Hid dryP; rw [hgd.out, if_neg t1, if_pos (by rw [t3]; simp)]
          go_wp2_with (first | (go_at_call 75; (with_reducible refine (demand_on _ _).mono ?_); rintro e w8 ⟨rfl, rfl⟩) | (go_at_call 43; (with_reducible refine q43.out.mono ?_); rintro e w8 ⟨rfl, rfl⟩; rw [t2]) | (go_at_call 55; (with_reducible refine q55.out.mono ?_); rintro e w8 ⟨rfl, hb8⟩; rw [t3]) | (go_at_call 75; (with_reducible refine (demand_no _ _).mono ?_); rintro e w8 ⟨rfl, rfl⟩))
          rw [hr.out]
          exact ⟨rfl, hb16.out.trans (hb8.mono hO6.out.bLe), .inl ⟨(by decide : (1 : Int) ≠ 0), rfl⟩⟩
        | true =>
          go_wp2_with (first | (go_at_call 75; (with_reducible refine (demand_on _ _).mono ?_); rintro e w8 ⟨rfl, rfl⟩) | (go_at_call 43; (with_reducible refine q43.out.mono ?_); rintro e w8 ⟨rfl, rfl⟩; rw [t2]) | (go_at_call 55; (with_reducible refine q55.out.mono ?_); rintro e w8 ⟨rfl, hb8⟩; rw [t3]))
          have hin := t2
          simp only [inB, Bool.and_eq_true, decide_eq_true_eq] at hin
          have hsp := t3
          simp only [spanB, Bool.and_eq_true, decide_eq_true_eq] at hsp
          have hO8 := hO6.out.later hb8
          obtain ⟨rb, sb⟩ := bcell hb8
          have x5' := (rb g (k * 7 + 5) gl6).trans x5
          have x6' := (rb g (k * 7 + 6) gl6).trans x6
          have y5' := (rb W.heap.size 5 chl6).trans y5
          have y7' := (rb W.heap.size 7 chl6).trans y7
          have y8' := (rb W.heap.size 8 chl6).trans y8
          have f5' := (sb g (k * 7 + 5) gl6).trans zf5
          have f6' := (sb g (k * 7 + 6) gl6).trans zf6
          have gl8 : g < w8.heap.size := Nat.lt_of_lt_of_le gl6 hb8.size
          obtain ⟨dd, hdd⟩ : ∃ dd, dd = a.days := ⟨_, rfl⟩
          obtain ⟨r0, hr0⟩ : ∃ r0, r0 = a.rain.lo := ⟨_, rfl⟩
          obtain ⟨r1, hr1⟩ : ∃ r1, r1 = a.rain.hi := ⟨_, rfl⟩
          obtain ⟨u0, hu0⟩ : ∃ u0, u0 = H.wet.lo := ⟨_, rfl⟩
          obtain ⟨u1, hu1⟩ : ∃ u1, u1 = H.wet.hi := ⟨_, rfl⟩
          have hr : Hid (dryP s k a = (0, { s with heaps := s.heaps.set k (wetH H ⟨clampP (u0 - 20 * dd + 5 * r0), clampP (u1 - 10 * dd + 15 * r1)⟩) })) := by unfold Hid dryP; rw [hgd.out, if_neg t1, if_neg (by rw [t2, t3]; simp), hdd, hr0, hr1, hu0, hu1]
          rw [← hdd] at hin y5'
          rw [← hr0] at hsp y7'
          rw [← hr1] at hsp y8'
          rw [← hu0] at wl1 wl2 x5'
          rw [← hu1] at wl2 wl3 x6'
          obtain ⟨hin1, hin2⟩ := hin
          have hsp1 : 0 ≤ r0 ∧ r0 ≤ 100 ∧ 0 ≤ r1 ∧ r1 ≤ 100 := by omega
          obtain ⟨hs1, hs2, hs3, hs4⟩ := hsp1
          have hq123 : Hid (∀ x W', Calls Try.prog 123 #[.int .i64 x] W' fun e w' => e = .returned (.int .i64 (clampP x)) ∧ w' = W') := fun x W' => wet_any x W'
          replace hO8 := Lib.hid hO8
          replace hb8 := Lib.hid hb8
          clear hdd hr0 hr1 hu0 hu1 x2 x5 x6 y5 y7 y8 zf5 zf6 t2 t3 rb sb q43 q55
          refine wp_region_last 36 rfl (by kernel_rfl) (by kernel_rfl) ?_
          simp only [List.take_succ_cons, List.take_zero]
          repeat (go_big_quiet_step (first | (go_at_call 123; exact Calls.quiet_of_same (hq123.out _ _))))
          refine wpQuiet_nil ?_
          rintro _ ⟨nq, rfl⟩
          go_simp
          go_end0
          obtain ⟨e0, he0⟩ : ∃ e0, e0 = clampP (u0 - 20 * dd + 5 * r0) := ⟨_, rfl⟩
          obtain ⟨e1, he1⟩ : ∃ e1, e1 = clampP (u1 - 10 * dd + 15 * r1) := ⟨_, rfl⟩
          rw [← he0, ← he1] at hr ⊢
          have h9 := hO8.out.later (below_drewN_ w8 nq)
          have hpo9 := h9.rows.old (List.getElem_mem hkl)
          have h10 := h9.heapTo (j := 5) (u := .int .i64 e0) (y := { s.heaps[k] with wet := ⟨e0, s.heaps[k].wet.hi⟩ }) hg'.out hkl (by decide) rfl hpo9
          have hkl2 : k < (s.heaps.set k { s.heaps[k] with wet := ⟨e0, s.heaps[k].wet.hi⟩ }).length := by rw [List.length_set]; exact hkl
          have hpo10 := h10.1.rows.old (List.getElem_mem hkl2)
          rw [List.getElem_set_self] at hpo10
          have h11 := h10.1.heapTo (j := 6) (u := .int .i64 e1) (y := { s.heaps[k] with wet := ⟨e0, e1⟩ }) hg'.out hkl2 (by decide) (by simp [encHeap]) hpo10
          rw [hr.out]
          refine ⟨(((hb16.out.trans (hb8.out.mono hO6.out.bLe)).trans (below_drewN_ w8 nq)).trans h10.2).trans h11.2, .inr ⟨rfl, rfl, _, ?_, h11.1⟩⟩
          refine ⟨rfl, rfl, rfl, ?_, rfl, rfl⟩
          show List.map bareH ((s.heaps.set k _).set k _) = _
          rw [List.set_set, List.map_set, List.map_set, hHe.out]
          rfl
end Go.Proofs.Ytpgkhlpepckfgaa
end
