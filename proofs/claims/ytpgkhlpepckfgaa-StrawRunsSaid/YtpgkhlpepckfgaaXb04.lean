/-
  Heaps are joined, as the specification has it: walked. Heaps are joined, as the specification has it: walked. Bundles are used, as the specification has it: walked.
-/
import Derived.Test.YtpgkhlpepckfgaaXb00
import Derived.Test.YtpgkhlpepckfgaaXb01
import Derived.Test.YtpgkhlpepckfgaaXb02
import Derived.Deep.DeepCutAuto
set_option linter.all false
set_option linter.unusedVariables false
set_option linter.unusedSimpArgs false
section
namespace Go.Proofs.Ytpgkhlpepckfgaa
open Go.RowKit Go.Lib

/-- The store that came in, and the result. -/
structure RM (s0 : Store) (B : Nat) (w : World) (t : Store) (W : World) : Prop where
  below : Below B w W
  store : W.heap[w.heap.size]? = some (.cells (storeCells t) 43 (0, 0))
  out : W.heap[w.heap.size + 1]? = some (.cells emptyC 43 (0, 0))
  size : w.heap.size + 2 ≤ W.heap.size
  rows : Rows B none t W
  frm : ∀ k, Lies t k → Lies s0 k ∨ w.heap.size + 2 ≤ k
  low : ∀ k, Lies s0 k → k < w.heap.size
  own : ∀ k, Owns t k → Owns s0 k ∨ w.heap.size + 2 ≤ k
  kept : ∀ k, k < w.heap.size → ¬ Owns s0 k → W.heap[k]? = w.heap[k]?
  hB : B ≤ w.heap.size
abbrev RMw (w : World) (s : Store) : World := (w.alloc (.cells (storeCells s) 43)).alloc (.cells emptyC 43)
section
variable {B : Nat} {w : World} {s0 s t : Store} {W W' : World}
theorem RM.make (h : Rows B none s w) (hB : B ≤ w.heap.size) : RM s B w s (RMw w s) := by
  have hb : Below w.heap.size w (RMw w s) := ((Below.refl _ w).alloc (Nat.le_refl _) _).alloc (by simp) _
  exact ⟨hb.mono hB, heap_old _ _ _ _ (heap_new _ _ _ rfl), heap_new _ _ _ (by simp), by simp, h.later hb, fun k hk => .inl hk, fun k hk => h.lies hk, fun k hk => .inl hk, fun k hk _ => hb.block k hk, hB⟩
theorem RM.far (h : RM s0 B w t W) : ∀ k, Lies t k → k < w.heap.size ∨ w.heap.size + 2 ≤ k := fun k hk => by
  rcases h.frm k hk with h1 | h1
  · exact .inl (h.low k h1)
  · exact .inr h1
theorem RM.notOwn (h : RM s0 B w t W) {k g : Nat} (hk : k < w.heap.size) (hn : ¬ Owns s0 k) (hg : Owns t g) : k ≠ g := fun e => by
  rcases h.own g hg with h1 | h1
  · exact hn (e ▸ h1)
  · omega
theorem RM.bLe (h : RM s0 B w t W) : B ≤ W.heap.size := by have := h.size; have := h.hB; omega
theorem RM.later (h : RM s0 B w t W) (hb : Below W.heap.size W W') : RM s0 B w t W' := by
  have hz := h.size
  exact ⟨h.below.trans (hb.mono h.bLe), (hb.block _ (by omega)).trans h.store, (hb.block _ (by omega)).trans h.out, Nat.le_trans hz hb.size, h.rows.later hb, h.frm, h.low, h.own, fun k hk hn => (hb.block k (by omega)).trans (h.kept k hk hn), h.hB⟩
/-- A heap's cell is written. -/
theorem RM.heapTo (h : RM s0 B w t W) {g i j : Nat} {u : Value} {y : Heap} (hg : t.ha = some ⟨g, 0, none⟩) (hi : i < t.heaps.length) (hj : j < 7) (he : encHeap y = (encHeap t.heaps[i]).set j u)
    (hy : (RdParts W y.pa y.parts ∧ y.name.size ≤ 140737488351232) ∧ ∀ k, y.parts ≠ [] → blk y.pa = some k → Off t none k) (hf : ∀ k, y.parts ≠ [] → blk y.pa = some k → Lies s0 k ∨ w.heap.size + 2 ≤ k) : RM s0 B w { t with heaps := t.heaps.set i y } (W.setCell ⟨g, i * 7 + j, none⟩ u) := by
  have hne : ∀ k, k ≠ g → (W.setCell ⟨g, i * 7 + j, none⟩ u).heap[k]? = W.heap[k]? := fun k hk => Below.heap_setCell _ _ _ _ hk
  have h1 := h.far g (.inr (.inr (.inl (by rw [hg]; rfl))))
  refine ⟨h.below.setCell (p := ⟨g, i * 7 + j, none⟩) (h.rows.heapsLt (k := g) (by rw [hg]; rfl)).1 _, ?_, (hne _ (by omega)).trans h.out, by rw [set_size]; exact h.size, h.rows.heapTo hg hi hj he hy, fun k hk => ?_, h.low, fun k hk => h.own k hk, fun k hk hn => (hne k (h.notOwn hk hn (.inr (.inr (by rw [hg]; rfl))))).trans (h.kept k hk hn), h.hB⟩
  · have hc : storeCells { t with heaps := t.heaps.set i y } = storeCells t := by simp [storeCells]
    rw [hc]
    exact (hne _ (by omega)).trans h.store
  · rcases hk with e | e | e | e | e | ⟨z, hz, h1, h2⟩
    · exact h.frm k (.inl e)
    · exact h.frm k (.inr (.inl e))
    · exact h.frm k (.inr (.inr (.inl e)))
    · exact h.frm k (.inr (.inr (.inr (.inl e))))
    · exact h.frm k (.inr (.inr (.inr (.inr (.inl e)))))
    · rcases List.mem_or_eq_of_mem_set hz with h4 | rfl
      · exact h.frm k (.inr (.inr (.inr (.inr (.inr ⟨z, h4, h1, h2⟩)))))
      · exact hf k h1 h2
theorem RM.fin (h : RM s0 B w t W) {r : Int × Store} (hr : r.1 = 0 → SameC t r.2) {fn : Func} {p q : Tmp} (hf : fn.results = #[.cell p 43, .tmp q]) {tmps : Array Value} (hp : tmps.getD p undef = ptr (w.heap.size + 1)) (hq : tmps.getD q undef = .int .i64 r.1) :
    bodyPost Try.prog fn (RefOut B s0 r w) .ret { tmps := tmps, defers := [] } ((((((W.setCell ⟨w.heap.size + 1, 0, none⟩ (.int .i64 t.year)).setCell ⟨w.heap.size + 1, 1, none⟩ (.slice t.la t.last.length t.lc)).setCell ⟨w.heap.size + 1, 2, none⟩ (.slice t.ga t.given.length t.gc)).setCell ⟨w.heap.size + 1, 3, none⟩ (.slice t.ha t.heaps.length t.hc)).setCell ⟨w.heap.size + 1, 4, none⟩ (.slice t.ua t.used.length t.uc)).setCell ⟨w.heap.size + 1, 5, none⟩ (.slice t.wa t.waste.length t.wc)) := by
  refine bodyPost_ret (ret_store hf hp hq (set6 _ _ _ _ _ _ h.out)) rfl ?_
  have hz := h.size
  have hB := h.hB
  exact ⟨t, rfl, set6_below _ _ _ _ _ _ h.below (by omega), fun e => ⟨hr e, h.rows.put6 (by omega) (fun k hk => by have := h.far k hk; omega) _ _ _ _ _ _, fun k hk => (h.frm k hk).imp id (by omega)⟩, fun k hk hn => (set6_other _ _ _ _ _ _ (by omega)).trans (h.kept k hk hn)⟩
end
set_option maxHeartbeats 4000000 in
set_option maxRecDepth 100000 in
theorem merged_any (B : Nat) (s : Store) (k : Nat) (a : Chore) (w : World) (h : Rows B none s w) (hB : B ≤ w.heap.size) (hk : k < s.heaps.length) (hm : MildH s.heaps) (hpos : ∀ x ∈ s.heaps, ∀ p ∈ x.parts, 0 < p.loads) :
    Calls Try.prog 112 #[storeVal s, .int .i64 k, .string a.other] w (RefOut B s (joinP s k a) w) := by
  obtain ⟨W0, hW0⟩ : ∃ W0, W0 = RMw w s := ⟨_, rfl⟩
  have hX0 : Hid (RM s B w s W0) := by rw [hW0]; exact RM.make h hB
  unfold RMw at hW0
  obtain ⟨k0, k1, k2, k3, k4, k5⟩ := six_cells hX0.out.store
  obtain ⟨d0, d1, d2, d3, d4, d5⟩ := cells6 hX0.out.out
  have hfz : Hid (∀ W t, RM s B w t W → ∀ j, W.frozen? ⟨w.heap.size + 1, j, none⟩ = false) := fun W t h j => frozen_of_row W _ j _ _ h.out
  have hat : Hid (Calls Try.prog 70 #[storeVal s, .string a.other] W0 fun e w' => e = .returned (.int .i64 (nameIdx a.other s.heaps)) ∧ Below W0.heap.size W0 w') := at_any s a.other W0 hX0.out.rows.store
  have hrg := nameIdx_range a.other s.heaps
  obtain ⟨i, hi⟩ : ∃ i, i = nameIdx a.other s.heaps := ⟨_, rfl⟩
  rw [← hi] at hat hrg
  replace hi := Lib.hid hi
  go_enter Try.func112, Try.ntmps112
  go_upto_region 1 with fail
  rw [← hW0]
  replace hW0 := Lib.hid hW0
  go_wp2_with fail
  go_at_call 70
  (with_reducible refine hat.out.mono ?_)
  rintro e w1 ⟨rfl, hb1⟩
  have hX1 := Lib.hid (hX0.out.later hb1)
  clear k0 k1 k2 k3 k4 k5 d0 d1 d2 d3 d4 d5 hat
  obtain ⟨k0, k1, k2, k3, k4, k5⟩ := six_cells hX1.out.store
  obtain ⟨d0, d1, d2, d3, d4, d5⟩ := cells6 hX1.out.out
  have f0 := hfz.out _ _ hX1.out 0
  have f1 := hfz.out _ _ hX1.out 1
  have f2 := hfz.out _ _ hX1.out 2
  have f3 := hfz.out _ _ hX1.out 3
  have f4 := hfz.out _ _ hX1.out 4
  have f5 := hfz.out _ _ hX1.out 5
  by_cases q1 : i < 0
  · have hr : Hid (joinP s k a = (7, s)) := by unfold Hid joinP; rw [← hi.out, if_pos q1]
    go_wp2_with fail
    rw [hr.out]
    exact hX1.out.fin (r := (7, s)) (fun e => by cases e) Try.results112 rfl rfl
  · obtain ⟨m, hm0⟩ : ∃ m : Nat, i = (m : Int) := ⟨i.toNat, by omega⟩
    subst hm0
    have hml : m < s.heaps.length := by omega
    have q1h : Hid (0 ≤ nameIdx a.other s.heaps) := Int.not_lt.1 (hi.out ▸ q1)
    by_cases q2 : m = k
    · have hr : Hid (joinP s k a = (10, s)) := by unfold Hid joinP; rw [if_neg (Int.not_lt.2 q1h.out), ← hi.out, if_pos (by rw [q2])]
      have q2b : (((m : Nat) : Int) == (k : Nat)) = true := by rw [q2]; simp
      replace q2 := Lib.hid q2
      go_wp2_with fail
      rw [hr.out]
      exact hX1.out.fin (r := (10, s)) (fun e => by cases e) Try.results112 rfl rfl
    · have q2b : (((m : Nat) : Int) == (k : Nat)) = false := by rw [beq_eq_false_iff_ne]; omega
      obtain ⟨g, hg, hcG, hfG⟩ := hX1.out.rows.heapAt hk
      have hcH := (hX1.out.rows.heapAt hml)
      obtain ⟨g', hg', hcH, _⟩ := hcH
      rw [hg] at hg'
      cases hg'
      obtain ⟨G, hG⟩ : ∃ G, G = s.heaps[k] := ⟨_, rfl⟩
      obtain ⟨H, hH⟩ : ∃ H, H = s.heaps[m] := ⟨_, rfl⟩
      rw [← hG] at hcG
      rw [← hH] at hcH
      rw [hg] at k3
      have hgd : Hid (s.heaps.getD k default = G) := by unfold Hid; rw [getD_lt _ hk, hG]
      have hhd : Hid (s.heaps.getD m default = H) := by unfold Hid; rw [getD_lt _ hml, hH]
      have hg0 := Lib.hid hg
      clear hg
      replace hcG := Lib.hid hcG
      replace hcH := Lib.hid hcH
      replace hfG := Lib.hid hfG
      replace hG := Lib.hid hG
      replace hH := Lib.hid hH
      go_wp2_with fail
      have hS : Hid (∀ W, Below w1.heap.size w1 W → W.cell? ⟨w.heap.size, 3, none⟩ = some (.slice (some ⟨g, 0, none⟩) s.heaps.length s.hc) ∧
          (W.cell? ⟨g, k * 7, none⟩ = some (.string G.name) ∧ W.cell? ⟨g, k * 7 + 1, none⟩ = some (.int .i64 G.crop) ∧ W.cell? ⟨g, k * 7 + 2, none⟩ = some (.int .i64 G.stage) ∧ W.cell? ⟨g, k * 7 + 3, none⟩ = some (.slice G.pa G.parts.length G.pc) ∧ W.cell? ⟨g, k * 7 + 4, none⟩ = some (.int .i64 G.per) ∧ W.cell? ⟨g, k * 7 + 5, none⟩ = some (.int .i64 G.wet.lo) ∧ W.cell? ⟨g, k * 7 + 6, none⟩ = some (.int .i64 G.wet.hi)) ∧
          (W.cell? ⟨g, m * 7, none⟩ = some (.string H.name) ∧ W.cell? ⟨g, m * 7 + 1, none⟩ = some (.int .i64 H.crop) ∧ W.cell? ⟨g, m * 7 + 2, none⟩ = some (.int .i64 H.stage) ∧ W.cell? ⟨g, m * 7 + 3, none⟩ = some (.slice H.pa H.parts.length H.pc) ∧ W.cell? ⟨g, m * 7 + 4, none⟩ = some (.int .i64 H.per) ∧ W.cell? ⟨g, m * 7 + 5, none⟩ = some (.int .i64 H.wet.lo) ∧ W.cell? ⟨g, m * 7 + 6, none⟩ = some (.int .i64 H.wet.hi))) := fun W hW => by
        have hX := hX1.out.later hW
        have hgl : g < w1.heap.size := (hX1.out.rows.heapsLt (k := g) (by rw [hg0.out]; rfl)).2
        have hc : ∀ j v, w1.cell? ⟨g, j, none⟩ = some v → W.cell? ⟨g, j, none⟩ = some v := fun j v e => (hW.cell (p := ⟨g, j, none⟩) hgl).trans e
        have hk3 := (six_cells hX.store).2.2.2.1
        rw [hg0.out] at hk3
        exact ⟨hk3, ⟨hc _ _ (hcG.out 0 _ rfl), hc _ _ (hcG.out 1 _ rfl), hc _ _ (hcG.out 2 _ rfl), hc _ _ (hcG.out 3 _ rfl), hc _ _ (hcG.out 4 _ rfl), hc _ _ (hcG.out 5 _ rfl), hc _ _ (hcG.out 6 _ rfl)⟩,
          ⟨hc _ _ (hcH.out 0 _ rfl), hc _ _ (hcH.out 1 _ rfl), hc _ _ (hcH.out 2 _ rfl), hc _ _ (hcH.out 3 _ rfl), hc _ _ (hcH.out 4 _ rfl), hc _ _ (hcH.out 5 _ rfl), hc _ _ (hcH.out 6 _ rfl)⟩⟩
      go_cut [9, 10] from 21 to 30 (fun v9 v10 wx => ∃ bg bh, v9 = ptr bg ∧ v10 = ptr bh ∧ Hid (w1.heap.size ≤ bg ∧ w1.heap.size ≤ bh) ∧ Hid (Below w1.heap.size w1 wx) ∧ Hid (wx.heap[bg]? = some (.cells (hcells G) 77 (0, 0))) ∧ Hid (wx.heap[bh]? = some (.cells (hcells H) 77 (0, 0))))
      case first =>
        refine wp_region_tree (fun W => Below w1.heap.size w1 W) (.pure 0 (.read 1 (.pure 2 (.pure 3 (.read 4 (.pure 5 (.read 6 (.pure 7 (.pure 8 (.read 9 (.two 10 (.one 11 (.one 12 (.one 13 .done))) 11 (.one 10 (.one 12 (.one 13 .done))))))))))))) ) [] (by kernel_rfl) (by kernel_rfl) (below_drewN_ w1 1) ?_
        obtain ⟨wq, hwq⟩ : ∃ x, x = w1.drew := ⟨_, rfl⟩
        have hbq : Hid (Below w1.heap.size w1 wq) := by rw [hwq]; exact below_drewN_ w1 1
        rw [← hwq]
        replace hwq := Lib.hid hwq
        repeat
          ((first | (refine wpTree_pure (v := ?_) rfl (by rfl) ?_ (fun _ _ _ h => h) ?_) | (refine wpTree_take (v := ?_) rfl (by rfl) ?_ (fun _ _ _ h => h) ?_))
           rotate_left
           (focus (intro w'; (try (intro hSw; obtain ⟨k3, ⟨x0, x1, x2, x3, x4, x5, x6⟩, y0, y1, y2, y3, y4, y5, y6⟩ := hS.out _ hSw; clear hSw)); (try simp only [List.getElem_toArray, List.getElem_cons_zero, List.getElem_cons_succ]); go_simp; try with_reducible rfl))
           simp only [List.getElem_toArray, List.getElem_cons_zero, List.getElem_cons_succ, Act.put, List.setIfInBounds_toArray, List.set_cons_zero, List.set_cons_succ])
        refine wpTree_two rfl (by rfl) rfl (by rfl) ?_ ?_
        · (try simp only [List.getElem_toArray, List.getElem_cons_zero, List.getElem_cons_succ])
          go_simp
          refine ⟨fun hW => hW.alloc hW.size _, ?_⟩
          refine wpTree_do rfl (by rfl) ?_
          (try simp only [List.getElem_toArray, List.getElem_cons_zero, List.getElem_cons_succ])
          go_simp
          refine ⟨fun _ => (hbq.out.alloc hbq.out.size _).alloc (by simp; have := hbq.out.size; omega) _, ?_⟩
          refine wpTree_do rfl (by rfl) ?_
          (try simp only [List.getElem_toArray, List.getElem_cons_zero, List.getElem_cons_succ])
          go_simp
          refine ⟨fun _ => (hbq.out.alloc hbq.out.size _).alloc (by simp; have := hbq.out.size; omega) _, ?_⟩
          refine wpTree_do rfl (by rfl) ?_
          (try simp only [List.getElem_toArray, List.getElem_cons_zero, List.getElem_cons_succ])
          go_simp
          refine ⟨fun _ => (hbq.out.alloc hbq.out.size _).alloc (by simp; have := hbq.out.size; omega) _, ?_⟩
          unfold wpTree
          go_wp2_with fail
          go_meet
          refine ⟨wq.heap.size, wq.heap.size + 1, rfl, rfl, (by have := hbq.out.size; exact ⟨by omega, by omega⟩), (hbq.out.alloc hbq.out.size _).alloc (by simp; have := hbq.out.size; omega) _, heap_old _ _ _ _ (heap_new _ _ _ rfl), heap_new _ _ _ (by simp)⟩
        · (try simp only [List.getElem_toArray, List.getElem_cons_zero, List.getElem_cons_succ])
          go_simp
          refine ⟨fun hW => hW.alloc hW.size _, ?_⟩
          refine wpTree_do rfl (by rfl) ?_
          (try simp only [List.getElem_toArray, List.getElem_cons_zero, List.getElem_cons_succ])
          go_simp
          refine ⟨fun _ => (hbq.out.alloc hbq.out.size _).alloc (by simp; have := hbq.out.size; omega) _, ?_⟩
          refine wpTree_do rfl (by rfl) ?_
          (try simp only [List.getElem_toArray, List.getElem_cons_zero, List.getElem_cons_succ])
          go_simp
          refine ⟨fun _ => (hbq.out.alloc hbq.out.size _).alloc (by simp; have := hbq.out.size; omega) _, ?_⟩
          refine wpTree_do rfl (by rfl) ?_
          (try simp only [List.getElem_toArray, List.getElem_cons_zero, List.getElem_cons_succ])
          go_simp
          refine ⟨fun _ => (hbq.out.alloc hbq.out.size _).alloc (by simp; have := hbq.out.size; omega) _, ?_⟩
          unfold wpTree
          go_wp2_with fail
          go_meet
          refine ⟨wq.heap.size + 1, wq.heap.size, rfl, rfl, (by have := hbq.out.size; exact ⟨by omega, by omega⟩), (hbq.out.alloc hbq.out.size _).alloc (by simp; have := hbq.out.size; omega) _, heap_new _ _ _ (by simp), heap_old _ _ _ _ (heap_new _ _ _ rfl)⟩
      case rest =>
        obtain ⟨bg, bh, rfl, rfl, hbgh, hbw, hxg, hxh⟩ := hcut
        obtain ⟨w2, hw2⟩ : ∃ x, x = wc := ⟨_, rfl⟩
        rw [← hw2] at hbw hxg hxh ⊢
        clear hw2
        have hX2 := Lib.hid (hX1.out.later hbw.out)
        obtain ⟨x0, x1, x2, x3, x4, x5, x6⟩ := seven_cells hxg.out
        obtain ⟨y0, y1, y2, y3, y4, y5, y6⟩ := seven_cells hxh.out
        clear k0 k1 k2 k3 k4 k5 d0 d1 d2 d3 d4 d5 f0 f1 f2 f3 f4 f5
        obtain ⟨k0, k1, k2, k3, k4, k5⟩ := six_cells hX2.out.store
        obtain ⟨d0, d1, d2, d3, d4, d5⟩ := cells6 hX2.out.out
        have f0 := hfz.out _ _ hX2.out 0
        have f1 := hfz.out _ _ hX2.out 1
        have f2 := hfz.out _ _ hX2.out 2
        have f3 := hfz.out _ _ hX2.out 3
        have f4 := hfz.out _ _ hX2.out 4
        have f5 := hfz.out _ _ hX2.out 5
        by_cases t1 : G.crop = H.crop ∧ G.stage = H.stage ∧ G.stage ≠ 3
        · have t1h := Lib.hid t1
          obtain ⟨e1, e2, e3⟩ := t1
          have e1b : (G.crop != H.crop) = false := by simpa using e1
          have e2b : (G.stage != H.stage) = false := by simpa using e2
          have e3b : (G.stage == 3) = false := by simpa using e3
          clear e1 e2 e3
          rw [hg0.out] at k3
          go_wp2_with fail
          have hmG := (hm.2 _ (List.getElem_mem hk))
          have hmH := (hm.2 _ (List.getElem_mem hml))
          have hpH := hpos _ (List.getElem_mem hml)
          rw [← hG.out] at hmG
          rw [← hH.out] at hmH hpH
          have hrG := (hX2.out.rows.parts _ (List.getElem_mem hk))
          have hrH := (hX2.out.rows.parts _ (List.getElem_mem hml))
          rw [← hG.out] at hrG
          rw [← hH.out] at hrH
          have hoG := (hX2.out.rows.old (List.getElem_mem hk)).2
          rw [← hG.out] at hoG
          replace hoG := Lib.hid hoG
          have hJ : Hid (∀ W, Below w2.heap.size w2 W → Calls Try.prog 111 #[.slice G.pa G.parts.length G.pc, .slice H.pa H.parts.length H.pc] W (BehOut (behindP G.parts H.parts) W)) := fun W hW => joined_any _ _ _ _ _ _ _ (hrG.1.below hW) (hrH.1.below hW) hmG hmH hpH
          have hlenB : Hid ((behindP G.parts H.parts).length ≤ 140737488351232) := by
            have := (behindP_bounds G.parts hmG.2 H.parts hmH.2 H.parts.length (Nat.le_refl _)).1
            rw [List.take_length] at this
            have := hmG.1
            have := hmH.1
            unfold Hid; omega
          obtain ⟨JL, hJL⟩ : ∃ JL, JL = behindP G.parts H.parts := ⟨_, rfl⟩
          rw [← hJL] at hJ hlenB
          replace hJL := Lib.hid hJL
          replace hmG := Lib.hid hmG
          replace hmH := Lib.hid hmH
          replace hpH := Lib.hid hpH
          replace hrG := Lib.hid hrG
          replace hrH := Lib.hid hrH
          have hbgl := (Array.getElem?_eq_some_iff.1 hxg.out).1
          have hbhl := (Array.getElem?_eq_some_iff.1 hxh.out).1
          have hS2 : Hid (∀ W, Below w2.heap.size w2 W → W.cell? ⟨w.heap.size, 3, none⟩ = some (.slice (some ⟨g, 0, none⟩) s.heaps.length s.hc) ∧ W.cell? ⟨bg, 3, none⟩ = some (.slice G.pa G.parts.length G.pc) ∧ W.cell? ⟨bh, 3, none⟩ = some (.slice H.pa H.parts.length H.pc)) := fun W hW => by
            have hk3 := (six_cells (hX2.out.later hW).store).2.2.2.1
            rw [hg0.out] at hk3
            exact ⟨hk3, (seven_cells ((hW.block _ hbgl).trans hxg.out)).2.2.2.1, (seven_cells ((hW.block _ hbhl).trans hxh.out)).2.2.2.1⟩
          refine wp_region_tree (fun W => Below w2.heap.size w2 W) (.pure 0 (.read 1 (.pure 2 (.pure 3 (.read 4 (.pure 5 (.read 6 (.one 7 (.pure 8 (.pure 9 (.one 10 .done))))))))))) [10] (by kernel_rfl) (by kernel_rfl) (below_drewN_ w2 1) ?_
          obtain ⟨wq, hwq⟩ : ∃ x, x = w2.drew := ⟨_, rfl⟩
          have hbq : Hid (Below w2.heap.size w2 wq) := by rw [hwq]; exact below_drewN_ w2 1
          rw [← hwq]
          replace hwq := Lib.hid hwq
          clear k0 k1 k2 k3 k4 k5 d0 d1 d2 d3 d4 d5 f0 f1 f2 f3 f4 f5 x0 x1 x2 x3 x4 x5 x6 y0 y1 y2 y3 y4 y5 y6
          repeat
            ((first | (refine wpTree_pure (v := ?_) rfl (by rfl) ?_ (fun _ _ _ h => h) ?_) | (refine wpTree_take (v := ?_) rfl (by rfl) ?_ (fun _ _ _ h => h) ?_))
             rotate_left
             (focus (intro w'; (try (intro hSw; obtain ⟨k3, x3, y3⟩ := hS2.out _ hSw; clear hSw)); (try simp only [List.getElem_toArray, List.getElem_cons_zero, List.getElem_cons_succ]); go_simp; try with_reducible rfl))
             simp only [List.getElem_toArray, List.getElem_cons_zero, List.getElem_cons_succ, Act.put, List.setIfInBounds_toArray, List.set_cons_zero, List.set_cons_succ])
          refine wpTree_do rfl (by rfl) ?_
          (try simp only [List.getElem_toArray, List.getElem_cons_zero, List.getElem_cons_succ])
          go_simp
          go_at_call 111
          (with_reducible refine (hJ.out _ hbq.out).mono ?_)
          rintro e w3 ⟨A1, c1, rfl, hr3, hb3⟩
          have hb23 := Lib.hid (hbq.out.trans (hb3.mono hbq.out.size))
          refine ⟨fun _ => hb23.out, ?_⟩
          replace hr3 := Lib.hid hr3
          replace hb3 := Lib.hid hb3
          have hX3 := Lib.hid (hX2.out.later hb23.out)
          refine wpTree_pure (v := ?_) rfl (by rfl) ?_ (fun _ _ _ h => h) ?_
          rotate_left
          focus (intro w'; (try simp only [List.getElem_toArray, List.getElem_cons_zero, List.getElem_cons_succ]); go_simp; try with_reducible rfl)
          simp only [List.getElem_toArray, List.getElem_cons_zero, List.getElem_cons_succ, Act.put, List.setIfInBounds_toArray, List.set_cons_zero, List.set_cons_succ]
          refine wpTree_pure (v := ?_) rfl (by rfl) ?_ (fun _ _ _ h => h) ?_
          rotate_left
          focus (intro w'; (try simp only [List.getElem_toArray, List.getElem_cons_zero, List.getElem_cons_succ]); go_simp; try with_reducible rfl)
          simp only [List.getElem_toArray, List.getElem_cons_zero, List.getElem_cons_succ, Act.put, List.setIfInBounds_toArray, List.set_cons_zero, List.set_cons_succ]
          obtain ⟨g', hg', hc3, hf3⟩ := hX3.out.rows.heapAt hk
          rw [hg0.out] at hg'
          cases hg'
          rw [← hG.out] at hc3
          have z3 : w3.cell? ⟨g, k * 7 + 3, none⟩ = some (.slice G.pa G.parts.length G.pc) := hc3 3 _ rfl
          have v3 := hf3 (k * 7 + 3)
          replace hc3 := Lib.hid hc3
          replace hf3 := Lib.hid hf3
          refine wpTree_do rfl (by rfl) ?_
          (try simp only [List.getElem_toArray, List.getElem_cons_zero, List.getElem_cons_succ])
          go_simp
          obtain ⟨w4, hw4⟩ : ∃ x, x = w3.setCell ⟨g, k * 7 + 3, none⟩ (.slice A1 JL.length c1) := ⟨_, rfl⟩
          obtain ⟨G1, hG1⟩ : ∃ G1, G1 = ({ G with parts := JL, pa := A1, pc := c1 } : Heap) := ⟨_, rfl⟩
          have hgl : g < w1.heap.size := (hX1.out.rows.heapsLt (k := g) (by rw [hg0.out]; rfl)).2
          have hgw : g < w.heap.size := (h.heapsLt (k := g) (by rw [hg0.out]; rfl)).2
          have hnew3 : ∀ q, JL ≠ [] → blk A1 = some q → w2.heap.size ≤ q := fun q _ e => by
            have h1 := (hr3.out.lt q (by rw [ownBlock_slice]; exact e)).1
            have h2 := hbq.out.size
            omega
          have hz2 := hX2.out.size
          have hnmG : G.name.size ≤ 140737488351232 := hrG.out.2
          have hX4 : Hid (RM s B w { s with heaps := s.heaps.set k G1 } w4) := by
            rw [hw4]
            refine hX3.out.heapTo (y := G1) hg0.out hk (by decide) (by rw [hG1, ← hG.out]; rfl) ⟨⟨by rw [hG1]; exact hr3.out.rd hlenB.out, by rw [hG1]; exact hnmG⟩, fun q h1 h2 => ?_⟩ (fun q h1 h2 => .inr ?_)
            · rw [hG1] at h1 h2
              exact hX2.out.rows.newOff (hnew3 q h1 h2)
            · rw [hG1] at h1 h2
              have := hnew3 q h1 h2
              omega
          have hbgne : bg ≠ g := by have := hbgh.out; omega
          have hbhne : bh ≠ g := by have := hbgh.out; omega
          have hxg4 : w4.heap[bg]? = some (.cells (hcells G) 77 (0, 0)) := by rw [hw4]; exact (Below.heap_setCell _ _ _ _ hbgne).trans ((hb23.out.block _ hbgl).trans hxg.out)
          have hxh4 : w4.heap[bh]? = some (.cells (hcells H) 77 (0, 0)) := by rw [hw4]; exact (Below.heap_setCell _ _ _ _ hbhne).trans ((hb23.out.block _ hbhl).trans hxh.out)
          rw [← hw4]
          unfold wpTree
          clear z3 v3
          replace hw4 := Lib.hid hw4
          replace hG1 := Lib.hid hG1
          replace hnew3 := Lib.hid hnew3
          have hk4 : k < (s.heaps.set k G1).length := by rw [List.length_set]; exact hk
          have hge1 : (s.heaps.set k G1)[k]'hk4 = G1 := List.getElem_set_self _
          obtain ⟨g', hg', hc4, hf4⟩ := hX4.out.rows.heapAt hk4
          have hg4 : Hid (s.ha = some ⟨g', 0, none⟩) := hg'
          rw [hg0.out] at hg'
          cases hg'
          rw [hge1] at hc4
          replace hge1 := Lib.hid hge1
          have z5 : w4.cell? ⟨g, k * 7 + 5, none⟩ = some (.int .i64 G1.wet.lo) := hc4 5 _ rfl
          have z6 : w4.cell? ⟨g, k * 7 + 6, none⟩ = some (.int .i64 G1.wet.hi) := hc4 6 _ rfl
          have v5 := hf4 (k * 7 + 5)
          have v6 := hf4 (k * 7 + 6)
          have k3 := (six_cells hX4.out.store).2.2.2.1
          rw [List.length_set, show ({ s with heaps := s.heaps.set k G1 } : Store).ha = s.ha from rfl, hg0.out] at k3
          obtain ⟨_, _, _, _, _, x5, x6⟩ := seven_cells hxg4
          obtain ⟨_, _, _, _, _, y5, y6⟩ := seven_cells hxh4
          have hmin : ∀ (w : World) (ts : Array TypeId) (t : TypeId), (Builtin.min_ ts t #[.int .i64 G.wet.lo, .int .i64 H.wet.lo]).run Try.prog w = .ok (.int .i64 (min G.wet.lo H.wet.lo)) w := fun w ts t => run_min_ints w ts t _ _ _ _
          have hmax : ∀ (w : World) (ts : Array TypeId) (t : TypeId), (Builtin.max_ ts t #[.int .i64 G.wet.hi, .int .i64 H.wet.hi]).run Try.prog w = .ok (.int .i64 (max G.wet.hi H.wet.hi)) w := fun w ts t => run_max_ints w ts t _ _ _ _
          replace hc4 := Lib.hid hc4
          replace hf4 := Lib.hid hf4
          replace hxg4 := Lib.hid hxg4
          replace hxh4 := Lib.hid hxh4
          go_upto_region 11 with fail
          obtain ⟨w5, hw5⟩ : ∃ x, x = (w4.setCell ⟨g, k * 7 + 5, none⟩ (.int .i64 (min G.wet.lo H.wet.lo))).setCell ⟨g, k * 7 + 5 + 1, none⟩ (.int .i64 (max G.wet.hi H.wet.hi)) := ⟨_, rfl⟩
          rw [← hw5]
          obtain ⟨G2, hG2⟩ : ∃ G2, G2 = ({ G1 with wet := ⟨min G.wet.lo H.wet.lo, max G.wet.hi H.wet.hi⟩ } : Heap) := ⟨_, rfl⟩
          have hX5 : Hid (RM s B w { s with heaps := s.heaps.set k G2 } w5) := by
            have hp1 := hX4.out.rows.old (g := G1) (by have := List.getElem_mem hk4; rw [hge1.out] at this; exact this)
            have hf1 : ∀ q, G1.parts ≠ [] → blk G1.pa = some q → Lies s q ∨ w.heap.size + 2 ≤ q := fun q h1 h2 => hX4.out.frm q (.inr (.inr (.inr (.inr (.inr ⟨G1, by have := List.getElem_mem hk4; rw [hge1.out] at this; exact this, h1, h2⟩)))))
            have hXa := hX4.out.heapTo (i := k) (j := 5) (u := .int .i64 (min G.wet.lo H.wet.lo)) (y := { G1 with wet := ⟨min G.wet.lo H.wet.lo, G1.wet.hi⟩ }) hg0.out hk4 (by decide) (by rw [hge1.out]; rfl) ⟨⟨hp1.1.1, hp1.1.2⟩, hp1.2⟩ hf1
            have hk5 : k < ((s.heaps.set k G1).set k { G1 with wet := ⟨min G.wet.lo H.wet.lo, G1.wet.hi⟩ }).length := by rw [List.length_set]; exact hk4
            have hp2 := hXa.rows.old (g := { G1 with wet := ⟨min G.wet.lo H.wet.lo, G1.wet.hi⟩ }) (by have := List.getElem_mem hk5; rw [List.getElem_set_self] at this; exact this)
            have hXb := hXa.heapTo (i := k) (j := 6) (u := .int .i64 (max G.wet.hi H.wet.hi)) (y := G2) hg0.out hk5 (by decide) (by rw [List.getElem_set_self, hG2]; rfl) (by rw [hG2]; exact ⟨⟨hp2.1.1, hp2.1.2⟩, hp2.2⟩) (by rw [hG2]; exact hf1)
            rw [hw5]
            rw [List.set_set, List.set_set] at hXb
            exact hXb
          obtain ⟨t5, ht5⟩ : ∃ t, t = ({ s with heaps := s.heaps.set k G2 } : Store) := ⟨_, rfl⟩
          rw [← ht5] at hX5
          have hml5 : m < t5.heaps.length := by rw [ht5]; show m < (s.heaps.set k G2).length; rw [List.length_set]; exact hml
          have hr : Hid (∃ r, joinP s k a = (0, r) ∧ SameC (keepP t5 m []) r) := by
            have e1 : joinP s k a = (0, keepP { s with heaps := s.heaps.set k (wetH (setPartsH G (behindP G.parts H.parts)) ⟨min G.wet.lo H.wet.lo, max G.wet.hi H.wet.hi⟩) } m []) := by
              unfold joinP
              rw [if_neg (Int.not_lt.2 q1h.out), ← hi.out, if_neg (by omega), Int.toNat_natCast, hgd.out, hhd.out, if_neg (fun h => h t1h.out)]
            refine ⟨_, e1, SameC.keep ?_ _ _⟩
            rw [ht5]
            refine (SameC.refl s).put k _ _ ?_
            rw [hG2, hG1.out, hJL.out]
            rfl
          replace ht5 := Lib.hid ht5
          replace hw5 := Lib.hid hw5
          replace hG2 := Lib.hid hG2
          clear z5 z6 v5 v6 k3 x5 x6 y5 y6 hmin hmax
          obtain ⟨k0, k1, k2, k3, k4, k5⟩ := six_cells hX5.out.store
          have hwo : Hid (Calls Try.prog 115 #[storeVal t5, .int .i64 m] w5 (WithOut B w5.heap.size (fun _ => False) t5 (keepP t5 m []) w5)) := without_any B t5 m w5 hX5.out.rows hX5.out.bLe hml5
          obtain ⟨r, hr1, hr2⟩ := hr.out
          replace hr1 := Lib.hid hr1
          replace hr2 := Lib.hid hr2
          go_wp2_with fail
          go_at_call 115
          (with_reducible refine hwo.out.mono ?_)
          rintro e w6 ⟨t6, rfl, hst6, hr6, hb6, hf6, hk6, _⟩
          have hz5 := hX5.out.size
          have ho6 : w6.heap[w.heap.size + 1]? = some (.cells emptyC 43 (0, 0)) := (hb6.block _ (by omega)).trans hX5.out.out
          obtain ⟨d0, d1, d2, d3, d4, d5⟩ := cells6 ho6
          have hfz6 : ∀ j, w6.frozen? ⟨w.heap.size + 1, j, none⟩ = false := fun j => frozen_of_row w6 _ j _ _ ho6
          have f0 := hfz6 0
          have f1 := hfz6 1
          have f2 := hfz6 2
          have f3 := hfz6 3
          have f4 := hfz6 4
          have f5 := hfz6 5
          clear hfz6 k0 k1 k2 k3 k4 k5
          replace ho6 := Lib.hid ho6
          replace hst6 := Lib.hid hst6
          replace hr6 := Lib.hid hr6
          replace hb6 := Lib.hid hb6
          replace hf6 := Lib.hid hf6
          replace hk6 := Lib.hid hk6
          go_wp2_with fail
          rw [hr1.out]
          refine bodyPost_ret (ret_store Try.results112 rfl rfl (set6 _ _ _ _ _ _ ho6.out)) rfl ?_
          have hz6 := hb6.out.size
          refine ⟨t6, rfl, set6_below _ _ _ _ _ _ (hX5.out.below.trans (hb6.out.mono hX5.out.bLe)) (by have := hX5.out.hB; omega), fun _ => ⟨hst6.out.trans hr2.out, hr6.out.put6 (by omega) (fun q hq => ?_) _ _ _ _ _ _, fun q hq => ?_⟩, fun q hq hn => (set6_other _ _ _ _ _ _ (by omega)).trans ((hk6.out q (by omega) (fun e => hX5.out.notOwn hq hn (.inr (.inr e)) rfl)).trans (hX5.out.kept q hq hn))⟩
          · rcases hf6.out q hq with h1 | h1 | h1
            · have := hX5.out.far q h1; omega
            · exact h1.elim
            · omega
          · rcases hf6.out q hq with h1 | h1 | h1
            · exact (hX5.out.frm q h1).imp id (by omega)
            · exact h1.elim
            · exact .inr (by omega)
        · have hr : Hid (joinP s k a = (8, s)) := by unfold Hid joinP; rw [if_neg (Int.not_lt.2 q1h.out), ← hi.out, if_neg (by omega), Int.toNat_natCast, hgd.out, hhd.out, if_pos t1]
          have t1' : (G.crop != H.crop) = true ∨ ((G.crop != H.crop) = false ∧ ((G.stage != H.stage) = true ∨ ((G.stage != H.stage) = false ∧ (G.stage == 3) = true))) := by
            by_cases e1 : G.crop = H.crop
            · by_cases e2 : G.stage = H.stage
              · have e3 : G.stage = 3 := Decidable.byContradiction fun e3 => t1 ⟨e1, e2, e3⟩
                exact .inr ⟨by simpa using e1, .inr ⟨by simpa using e2, by simpa using e3⟩⟩
              · exact .inr ⟨by simpa using e1, .inl (by simpa using e2)⟩
            · exact .inl (by simpa using e1)
          replace t1 := Lib.hid t1
          rcases t1' with e1 | ⟨e1, e2 | ⟨e2, e3⟩⟩
          all_goals
            go_wp2_with fail
            rw [hr.out]
            exact hX2.out.fin (r := (8, s)) (fun e => by cases e) Try.results112 rfl rfl
end Go.Proofs.Ytpgkhlpepckfgaa
end
section
namespace Go.Proofs.Ytpgkhlpepckfgaa
open Go.RowKit Go.Lib

set_option maxHeartbeats 4000000 in
set_option maxRecDepth 100000 in
theorem done_join (B : Nat) (A : Option Addr) (pl : List Plot) (c : Nat) (dry : Int) (s : Store) (a : Chore) (w : World) (h : Rows B none s w) (hB : B ≤ w.heap.size) (hk : a.kind = 5) (hm : MildH s.heaps) (hpos : ∀ x ∈ s.heaps, ∀ p ∈ x.parts, 0 < p.loads) :
    Calls Try.prog 78 #[.agg #[.slice A pl.length c, .int .i64 dry], storeVal s, choreVal a] w (RefOut B s (if nameIdx a.name s.heaps < 0 then (7, s) else joinP s (nameIdx a.name s.heaps).toNat a) w) := by
  have hq1 : (a.kind == 1) = false := by rw [hk]; rfl
  have hq2 : (a.kind == 2) = false := by rw [hk]; rfl
  have hq3 : (a.kind == 3) = false := by rw [hk]; rfl
  have hq4 : (a.kind == 4) = false := by rw [hk]; rfl
  have hq5 : (a.kind == 5) = true := by rw [hk]; rfl
  have hq6 : (a.kind == 6) = false := by rw [hk]; rfl
  have hq7 : (a.kind == 7) = false := by rw [hk]; rfl
  have hq8 : (a.kind == 8) = false := by rw [hk]; rfl
  replace hk := Lib.hid hk
  obtain ⟨W0, hW0⟩ : ∃ W0, W0 = RXw w A c pl dry a s := ⟨_, rfl⟩
  have hX0 : Hid (RX s B w A c pl dry a s W0) := by rw [hW0]; exact RX.make h hB
  unfold RXw at hW0
  have hat : Hid (Calls Try.prog 70 #[storeVal s, .string a.name] W0 fun e w' => e = .returned (.int .i64 (nameIdx a.name s.heaps)) ∧ Below W0.heap.size W0 w') := at_any s a.name W0 hX0.out.rows.store
  have hrg := nameIdx_range a.name s.heaps
  obtain ⟨i, hi⟩ : ∃ i, i = nameIdx a.name s.heaps := ⟨_, rfl⟩
  rw [← hi] at hat hrg ⊢
  replace hi := Lib.hid hi
  have hfz : Hid (∀ W t, RX s B w A c pl dry a t W → ∀ j, W.frozen? ⟨w.heap.size + 1 + 1 + 1, j, none⟩ = false) := fun W t h j => frozen_of_row W _ j _ _ h.out
  by_cases hneg : i < 0
  · rw [if_pos hneg]
    go_enter Try.func78, Try.ntmps78
    go_upto_region 2 with fail
    rw [← hW0]
    replace hW0 := Lib.hid hW0
    go_at_call 70
    (with_reducible refine hat.out.mono ?_)
    rintro e w1 ⟨rfl, hb1⟩
    have hX1 := Lib.hid (hX0.out.later hb1)
    have hb01 := Lib.hid hb1
    clear hX0 hat hb1
    obtain ⟨k0, k1, k2, k3, k4, k5⟩ := six_cells hX1.out.store
    obtain ⟨c0, c1, c2, c3, c4, c5, c6, c7, c8⟩ := nine_cells2 hX1.out.chore
    obtain ⟨p0, p1⟩ := cells2 hX1.out.farm
    obtain ⟨d0, d1, d2, d3, d4, d5⟩ := cells6 hX1.out.out
    have f0 := hfz.out _ _ hX1.out 0
    have f1 := hfz.out _ _ hX1.out 1
    have f2 := hfz.out _ _ hX1.out 2
    have f3 := hfz.out _ _ hX1.out 3
    have f4 := hfz.out _ _ hX1.out 4
    have f5 := hfz.out _ _ hX1.out 5
    go_wp2_with fail
    exact hX1.out.fin (r := (7, s)) (fun e => by cases e) Try.results78 rfl rfl
  rw [if_neg hneg]
  obtain ⟨k, hkk⟩ : ∃ k : Nat, i = (k : Int) := ⟨i.toNat, by omega⟩
  subst hkk
  rw [Int.toNat_natCast]
  have hkl : k < s.heaps.length := by omega
  clear hrg hneg
  go_enter Try.func78, Try.ntmps78
  go_upto_region 2 with fail
  rw [← hW0]
  replace hW0 := Lib.hid hW0
  go_at_call 70
  (with_reducible refine hat.out.mono ?_)
  rintro e w1 ⟨rfl, hb1⟩
  have hX1 := Lib.hid (hX0.out.later hb1)
  have hb01 := Lib.hid hb1
  clear hX0 hat hb1
  obtain ⟨k0, k1, k2, k3, k4, k5⟩ := six_cells hX1.out.store
  obtain ⟨c0, c1, c2, c3, c4, c5, c6, c7, c8⟩ := nine_cells2 hX1.out.chore
  obtain ⟨p0, p1⟩ := cells2 hX1.out.farm
  obtain ⟨d0, d1, d2, d3, d4, d5⟩ := cells6 hX1.out.out
  have f0 := hfz.out _ _ hX1.out 0
  have f1 := hfz.out _ _ hX1.out 1
  have f2 := hfz.out _ _ hX1.out 2
  have f3 := hfz.out _ _ hX1.out 3
  have f4 := hfz.out _ _ hX1.out 4
  have f5 := hfz.out _ _ hX1.out 5
  obtain ⟨G, hG⟩ : ∃ G, G = s.heaps[k] := ⟨_, rfl⟩
  obtain ⟨g, hg, hcG, hfG⟩ := hX1.out.rows.heapAt hkl
  rw [← hG] at hcG
  have hgd : Hid (s.heaps.getD k default = G) := by unfold Hid; rw [getD_lt _ hkl, hG]
  have hrG : RdParts w1 G.pa G.parts ∧ G.name.size ≤ 140737488351232 := hG ▸ hX1.out.rows.parts _ (List.getElem_mem hkl)
  have x0 : w1.cell? ⟨g, k * 7, none⟩ = some (.string G.name) := hcG 0 _ rfl
  have x1 : w1.cell? ⟨g, k * 7 + 1, none⟩ = some (.int .i64 G.crop) := hcG 1 _ rfl
  have x2 : w1.cell? ⟨g, k * 7 + 2, none⟩ = some (.int .i64 G.stage) := hcG 2 _ rfl
  have x3 : w1.cell? ⟨g, k * 7 + 3, none⟩ = some (.slice G.pa G.parts.length G.pc) := hcG 3 _ rfl
  have x4 : w1.cell? ⟨g, k * 7 + 4, none⟩ = some (.int .i64 G.per) := hcG 4 _ rfl
  have x5 : w1.cell? ⟨g, k * 7 + 5, none⟩ = some (.int .i64 G.wet.lo) := hcG 5 _ rfl
  have x6 : w1.cell? ⟨g, k * 7 + 6, none⟩ = some (.int .i64 G.wet.hi) := hcG 6 _ rfl
  rw [hg] at k3
  replace hg := Lib.hid hg
  replace hcG := Lib.hid hcG
  replace hfG := Lib.hid hfG
  replace hG := Lib.hid hG
  go_upto_region 13 with fail
  obtain ⟨w2, hw2⟩ : ∃ x, x = w1.alloc (.cells (hcells G) 77) := ⟨_, rfl⟩
  obtain ⟨bh, hbh⟩ : ∃ b, b = w1.heap.size := ⟨_, rfl⟩
  rw [← hw2, ← hbh]
  have hb2 : Below w1.heap.size w1 w2 := by rw [hw2]; exact (Below.refl _ w1).alloc (Nat.le_refl _) _
  have hx2 : Hid (w2.heap[bh]? = some (.cells (hcells G) 77 (0, 0))) := by unfold Hid; rw [hw2, hbh]; exact heap_new _ _ _ rfl
  have hX2 := Lib.hid (hX1.out.later hb2)
  have hrG2 := Lib.hid (hrG.1.below hb2)
  have hnG := Lib.hid hrG.2
  clear x0 x1 x2 x3 x4 x5 x6 k0 k1 k2 k3 k4 k5 c0 c1 c2 c3 c4 c5 c6 c7 c8 p0 p1 d0 d1 d2 d3 d4 d5 f0 f1 f2 f3 f4 f5 hrG hb2
  replace hw2 := Lib.hid hw2
  replace hbh := Lib.hid hbh
  obtain ⟨k0, k1, k2, k3, k4, k5⟩ := six_cells hX2.out.store
  obtain ⟨c0, c1, c2, c3, c4, c5, c6, c7, c8⟩ := nine_cells2 hX2.out.chore
  obtain ⟨p0, p1⟩ := cells2 hX2.out.farm
  obtain ⟨d0, d1, d2, d3, d4, d5⟩ := cells6 hX2.out.out
  have f0 := hfz.out _ _ hX2.out 0
  have f1 := hfz.out _ _ hX2.out 1
  have f2 := hfz.out _ _ hX2.out 2
  have f3 := hfz.out _ _ hX2.out 3
  have f4 := hfz.out _ _ hX2.out 4
  have f5 := hfz.out _ _ hX2.out 5
  obtain ⟨x0, x1, x2, x3, x4, x5, x6⟩ := seven_cells hx2.out
  have hme : Hid (Calls Try.prog 112 #[storeVal s, .int .i64 k, .string a.other] w2 (RefOut B s (joinP s k a) w2)) := merged_any B s k a w2 (hX2.out.rows.loose (Nat.le_refl _)) hX2.out.bLe hkl hm hpos
  clear d0 d1 d2 d3 d4 d5 f0 f1 f2 f3 f4 f5
  go_wp2_with fail
  go_at_call 112
  (with_reducible refine hme.out.mono ?_)
  rintro e w9 ⟨t, rfl, hb9, hr9, hk9⟩
  have hz9 := hX2.out.size
  have ho9 : w9.heap[w.heap.size + 1 + 1 + 1]? = some (.cells emptyC 43 (0, 0)) := (hk9 _ (by omega) (fun ho => by have := hX2.out.far _ (RX.ownLies ho); omega)).trans hX2.out.out
  obtain ⟨d0, d1, d2, d3, d4, d5⟩ := cells6 ho9
  have hfz9 : ∀ j, w9.frozen? ⟨w.heap.size + 1 + 1 + 1, j, none⟩ = false := fun j => frozen_of_row w9 _ j _ _ ho9
  have f0 := hfz9 0
  have f1 := hfz9 1
  have f2 := hfz9 2
  have f3 := hfz9 3
  have f4 := hfz9 4
  have f5 := hfz9 5
  clear hfz9
  replace ho9 := Lib.hid ho9
  replace hb9 := Lib.hid hb9
  replace hr9 := Lib.hid hr9
  replace hk9 := Lib.hid hk9
  go_wp2_with fail
  refine bodyPost_ret (ret_store Try.results78 rfl rfl (set6 _ _ _ _ _ _ ho9.out)) rfl ?_
  have hz := hb9.out.size
  have hB' := hX2.out.hB
  refine ⟨t, rfl, set6_below _ _ _ _ _ _ (hX2.out.below.trans hb9.out) (by omega), fun e => ?_, fun q hq hn => (set6_other _ _ _ _ _ _ (by omega)).trans ((hk9.out q (by omega) hn).trans (hX2.out.kept q hq hn))⟩
  obtain ⟨q1, q2, q3⟩ := hr9.out e
  refine ⟨q1, q2.put6 (by omega) (fun q hq => ?_) _ _ _ _ _ _, fun q hq => ?_⟩
  · rcases q3 q hq with h1 | h1
    · have := hX2.out.far q h1; omega
    · omega
  · rcases q3 q hq with h1 | h1
    · exact .inl h1
    · exact .inr (by omega)
end Go.Proofs.Ytpgkhlpepckfgaa
end
section
namespace Go.Proofs.Ytpgkhlpepckfgaa
open Go.RowKit Go.Lib

set_option maxHeartbeats 4000000 in
set_option maxRecDepth 100000 in
theorem done_use (B : Nat) (A : Option Addr) (pl : List Plot) (c : Nat) (dry : Int) (s : Store) (a : Chore) (w : World) (h : Rows B none s w) (hB : B ≤ w.heap.size) (hk : a.kind = 7) (hu : Mild s.used) (hm : MildH s.heaps) (hpos : ∀ x ∈ s.heaps, ∀ p ∈ x.parts, 0 < p.loads) (hper : ∀ x ∈ s.heaps, x.stage = 3 → 1 ≤ x.per ∧ x.per ≤ 100) :
    Calls Try.prog 78 #[.agg #[.slice A pl.length c, .int .i64 dry], storeVal s, choreVal a] w (RefOut B s (if nameIdx a.name s.heaps < 0 then (7, s) else useP s (nameIdx a.name s.heaps).toNat a) w) := by
  have hq1 : (a.kind == 1) = false := by rw [hk]; rfl
  have hq2 : (a.kind == 2) = false := by rw [hk]; rfl
  have hq3 : (a.kind == 3) = false := by rw [hk]; rfl
  have hq4 : (a.kind == 4) = false := by rw [hk]; rfl
  have hq5 : (a.kind == 5) = false := by rw [hk]; rfl
  have hq6 : (a.kind == 6) = false := by rw [hk]; rfl
  have hq7 : (a.kind == 7) = true := by rw [hk]; rfl
  have hq8 : (a.kind == 8) = false := by rw [hk]; rfl
  replace hk := Lib.hid hk
  obtain ⟨W0, hW0⟩ : ∃ W0, W0 = RXw w A c pl dry a s := ⟨_, rfl⟩
  have hX0 : Hid (RX s B w A c pl dry a s W0) := by rw [hW0]; exact RX.make h hB
  unfold RXw at hW0
  have hat : Hid (Calls Try.prog 70 #[storeVal s, .string a.name] W0 fun e w' => e = .returned (.int .i64 (nameIdx a.name s.heaps)) ∧ Below W0.heap.size W0 w') := at_any s a.name W0 hX0.out.rows.store
  have hrg := nameIdx_range a.name s.heaps
  obtain ⟨i, hi⟩ : ∃ i, i = nameIdx a.name s.heaps := ⟨_, rfl⟩
  rw [← hi] at hat hrg ⊢
  replace hi := Lib.hid hi
  have hfz : Hid (∀ W t, RX s B w A c pl dry a t W → ∀ j, W.frozen? ⟨w.heap.size + 1 + 1 + 1, j, none⟩ = false) := fun W t h j => frozen_of_row W _ j _ _ h.out
  by_cases hneg : i < 0
  · rw [if_pos hneg]
    go_enter Try.func78, Try.ntmps78
    go_upto_region 2 with fail
    rw [← hW0]
    replace hW0 := Lib.hid hW0
    go_at_call 70
    (with_reducible refine hat.out.mono ?_)
    rintro e w1 ⟨rfl, hb1⟩
    have hX1 := Lib.hid (hX0.out.later hb1)
    have hb01 := Lib.hid hb1
    clear hX0 hat hb1
    obtain ⟨k0, k1, k2, k3, k4, k5⟩ := six_cells hX1.out.store
    obtain ⟨c0, c1, c2, c3, c4, c5, c6, c7, c8⟩ := nine_cells2 hX1.out.chore
    obtain ⟨p0, p1⟩ := cells2 hX1.out.farm
    obtain ⟨d0, d1, d2, d3, d4, d5⟩ := cells6 hX1.out.out
    have f0 := hfz.out _ _ hX1.out 0
    have f1 := hfz.out _ _ hX1.out 1
    have f2 := hfz.out _ _ hX1.out 2
    have f3 := hfz.out _ _ hX1.out 3
    have f4 := hfz.out _ _ hX1.out 4
    have f5 := hfz.out _ _ hX1.out 5
    go_wp2_with fail
    exact hX1.out.fin (r := (7, s)) (fun e => by cases e) Try.results78 rfl rfl
  rw [if_neg hneg]
  obtain ⟨k, hkk⟩ : ∃ k : Nat, i = (k : Int) := ⟨i.toNat, by omega⟩
  subst hkk
  rw [Int.toNat_natCast]
  have hkl : k < s.heaps.length := by omega
  clear hrg hneg
  go_enter Try.func78, Try.ntmps78
  go_upto_region 2 with fail
  rw [← hW0]
  replace hW0 := Lib.hid hW0
  go_at_call 70
  (with_reducible refine hat.out.mono ?_)
  rintro e w1 ⟨rfl, hb1⟩
  have hX1 := Lib.hid (hX0.out.later hb1)
  have hb01 := Lib.hid hb1
  clear hX0 hat hb1
  obtain ⟨k0, k1, k2, k3, k4, k5⟩ := six_cells hX1.out.store
  obtain ⟨c0, c1, c2, c3, c4, c5, c6, c7, c8⟩ := nine_cells2 hX1.out.chore
  obtain ⟨p0, p1⟩ := cells2 hX1.out.farm
  obtain ⟨d0, d1, d2, d3, d4, d5⟩ := cells6 hX1.out.out
  have f0 := hfz.out _ _ hX1.out 0
  have f1 := hfz.out _ _ hX1.out 1
  have f2 := hfz.out _ _ hX1.out 2
  have f3 := hfz.out _ _ hX1.out 3
  have f4 := hfz.out _ _ hX1.out 4
  have f5 := hfz.out _ _ hX1.out 5
  obtain ⟨G, hG⟩ : ∃ G, G = s.heaps[k] := ⟨_, rfl⟩
  obtain ⟨g, hg, hcG, hfG⟩ := hX1.out.rows.heapAt hkl
  rw [← hG] at hcG
  have hgd : Hid (s.heaps.getD k default = G) := by unfold Hid; rw [getD_lt _ hkl, hG]
  have hrG : RdParts w1 G.pa G.parts ∧ G.name.size ≤ 140737488351232 := hG ▸ hX1.out.rows.parts _ (List.getElem_mem hkl)
  have x0 : w1.cell? ⟨g, k * 7, none⟩ = some (.string G.name) := hcG 0 _ rfl
  have x1 : w1.cell? ⟨g, k * 7 + 1, none⟩ = some (.int .i64 G.crop) := hcG 1 _ rfl
  have x2 : w1.cell? ⟨g, k * 7 + 2, none⟩ = some (.int .i64 G.stage) := hcG 2 _ rfl
  have x3 : w1.cell? ⟨g, k * 7 + 3, none⟩ = some (.slice G.pa G.parts.length G.pc) := hcG 3 _ rfl
  have x4 : w1.cell? ⟨g, k * 7 + 4, none⟩ = some (.int .i64 G.per) := hcG 4 _ rfl
  have x5 : w1.cell? ⟨g, k * 7 + 5, none⟩ = some (.int .i64 G.wet.lo) := hcG 5 _ rfl
  have x6 : w1.cell? ⟨g, k * 7 + 6, none⟩ = some (.int .i64 G.wet.hi) := hcG 6 _ rfl
  rw [hg] at k3
  replace hg := Lib.hid hg
  replace hcG := Lib.hid hcG
  replace hfG := Lib.hid hfG
  replace hG := Lib.hid hG
  go_upto_region 13 with fail
  obtain ⟨w2, hw2⟩ : ∃ x, x = w1.alloc (.cells (hcells G) 77) := ⟨_, rfl⟩
  obtain ⟨bh, hbh⟩ : ∃ b, b = w1.heap.size := ⟨_, rfl⟩
  rw [← hw2, ← hbh]
  have hb2 : Below w1.heap.size w1 w2 := by rw [hw2]; exact (Below.refl _ w1).alloc (Nat.le_refl _) _
  have hx2 : Hid (w2.heap[bh]? = some (.cells (hcells G) 77 (0, 0))) := by unfold Hid; rw [hw2, hbh]; exact heap_new _ _ _ rfl
  have hX2 := Lib.hid (hX1.out.later hb2)
  have hrG2 := Lib.hid (hrG.1.below hb2)
  have hnG := Lib.hid hrG.2
  clear x0 x1 x2 x3 x4 x5 x6 k0 k1 k2 k3 k4 k5 c0 c1 c2 c3 c4 c5 c6 c7 c8 p0 p1 d0 d1 d2 d3 d4 d5 f0 f1 f2 f3 f4 f5 hrG hb2
  replace hw2 := Lib.hid hw2
  replace hbh := Lib.hid hbh
  obtain ⟨k0, k1, k2, k3, k4, k5⟩ := six_cells hX2.out.store
  obtain ⟨c0, c1, c2, c3, c4, c5, c6, c7, c8⟩ := nine_cells2 hX2.out.chore
  obtain ⟨p0, p1⟩ := cells2 hX2.out.farm
  obtain ⟨d0, d1, d2, d3, d4, d5⟩ := cells6 hX2.out.out
  have f0 := hfz.out _ _ hX2.out 0
  have f1 := hfz.out _ _ hX2.out 1
  have f2 := hfz.out _ _ hX2.out 2
  have f3 := hfz.out _ _ hX2.out 3
  have f4 := hfz.out _ _ hX2.out 4
  have f5 := hfz.out _ _ hX2.out 5
  obtain ⟨x0, x1, x2, x3, x4, x5, x6⟩ := seven_cells hx2.out
  have hmG : Mild G.parts := hG.out ▸ (hm.2 _ (List.getElem_mem hkl))
  have hpG : ∀ p ∈ G.parts, 0 < p.loads := hG.out ▸ hpos _ (List.getElem_mem hkl)
  have hpe : G.stage = 3 → 1 ≤ G.per ∧ G.per ≤ 100 := hG.out ▸ hper _ (List.getElem_mem hkl)
  by_cases t1 : G.stage = 3
  rotate_left
  · have hr : Hid (useP s k a = (8, s)) := by unfold Hid useP; rw [hgd.out, if_pos t1]
    have t1d : (G.stage != 3) = true := by simpa using t1
    replace t1 := Lib.hid t1
    go_wp2_with fail
    rw [hr.out]
    exact hX2.out.fin (r := (8, s)) (fun e => by cases e) Try.results78 rfl rfl
  have t1d : (G.stage != 3) = false := by simpa using t1
  obtain ⟨pe1, pe2⟩ := hpe t1
  replace t1 := Lib.hid t1
  clear hpe
  obtain ⟨sm1, sm2⟩ := hmG.sum
  obtain ⟨sm, hsm⟩ : ∃ sm, sm = sumL G.parts := ⟨_, rfl⟩
  rw [← hsm] at sm1 sm2
  obtain ⟨q, hq⟩ : ∃ q, q = sm / G.per := ⟨_, rfl⟩
  have q1 : 0 ≤ q := by rw [hq]; exact Int.ediv_nonneg sm1 (by omega)
  have q2 : q ≤ sm := by rw [hq]; exact Int.ediv_le_self _ sm1
  have q3 : q * G.per ≤ sm := by rw [hq]; exact Int.ediv_mul_le sm (by omega)
  have dv1 : Int.tdiv sm G.per = q := by rw [hq]; exact Int.tdiv_eq_ediv_of_nonneg sm1
  have w1' : IntKind.i64.wrap q = q := IntWalk.i64_in _ (by omega)
  have w2' : wrap64 q = q := by unfold wrap64; omega
  have hp0 : G.per ≠ 0 := by omega
  have hq71 : Hid (∀ n, Calls Try.prog 71 #[.slice G.pa G.parts.length G.pc] (w2.drewN n) fun e w' => e = .returned (.int .i64 sm) ∧ w' = w2.drewN n) := fun n => (loads_any _ _ _ _ (hrG2.out.below (below_drewN_ w2 n)) hmG).mono fun _ _ ⟨h1, h2⟩ => ⟨by rw [h1, hsm], h2.symm⟩
  have dv2 : Hid (sumL G.parts / G.per = q) := by unfold Hid; rw [hq, hsm]
  replace hq := Lib.hid hq
  replace hsm := Lib.hid hsm
  obtain ⟨ok, hok⟩ : ∃ b, b = inB a.loads 1 q := ⟨_, rfl⟩
  have hq49 : Hid (∀ n, Calls Try.prog 49 #[.int .i64 a.loads, .int .i64 1, .int .i64 q] (w2.drewN n) fun e w' => e = .returned (.bool ok) ∧ w' = w2.drewN n) := fun n => (rin_any _ _ _ _).mono fun _ _ ⟨h1, h2⟩ => ⟨by rw [h1, hok], h2.symm⟩
  replace hok := Lib.hid hok
  cases ok with
  | false =>
    have hr : Hid (useP s k a = (1, s)) := by unfold Hid useP; rw [hgd.out, if_neg (fun h => h t1.out), dv2.out, if_pos hok.out.symm]
    go_wp2_with fail
    go_big_quiet (first | (go_at_call 71; exact Calls.quiet_of_same (hq71.out _)) | (go_at_call 49; exact Calls.quiet_of_same (hq49.out _)))
    obtain ⟨w3, hw3⟩ : ∃ x, x = w2.drewN nq := ⟨_, rfl⟩
    rw [← hw3]
    have hX3 := Lib.hid (hX2.out.later (show Below w2.heap.size w2 w3 by rw [hw3]; exact below_drewN_ _ _))
    clear x0 x1 x2 x3 x4 x5 x6 k0 k1 k2 k3 k4 k5 c0 c1 c2 c3 c4 c5 c6 c7 c8 p0 p1 d0 d1 d2 d3 d4 d5 f0 f1 f2 f3 f4 f5
    replace hw3 := Lib.hid hw3
    obtain ⟨k0, k1, k2, k3, k4, k5⟩ := six_cells hX3.out.store
    obtain ⟨c0, c1, c2, c3, c4, c5, c6, c7, c8⟩ := nine_cells2 hX3.out.chore
    obtain ⟨p0, p1⟩ := cells2 hX3.out.farm
    obtain ⟨d0, d1, d2, d3, d4, d5⟩ := cells6 hX3.out.out
    have f0 := hfz.out _ _ hX3.out 0
    have f1 := hfz.out _ _ hX3.out 1
    have f2 := hfz.out _ _ hX3.out 2
    have f3 := hfz.out _ _ hX3.out 3
    have f4 := hfz.out _ _ hX3.out 4
    have f5 := hfz.out _ _ hX3.out 5
    go_wp2_with fail
    rw [hr.out]
    exact hX3.out.fin (r := (1, s)) (fun e => by cases e) Try.results78 rfl rfl
  | true =>
  have hin := hok.out.symm
  simp only [inB, Bool.and_eq_true, decide_eq_true_eq] at hin
  have hk0 : 0 ≤ a.loads * G.per := Int.mul_nonneg (by omega) (by omega)
  have hk1 : a.loads * G.per ≤ sm := by
    have := Int.mul_le_mul_of_nonneg_right (c := G.per) hin.2 (by omega)
    omega
  obtain ⟨N, hN⟩ : ∃ N, N = a.loads * G.per := ⟨_, rfl⟩
  rw [← hN] at hk0 hk1
  have hNw : IntKind.i64.wrap (a.loads * G.per) = N := by rw [← hN]; exact IntWalk.i64_in _ (by omega)
  obtain ⟨CF, hCF⟩ : ∃ x, x = cutF G.parts N := ⟨_, rfl⟩
  obtain ⟨CR, hCR⟩ : ∃ x, x = cutR G.parts N := ⟨_, rfl⟩
  have hr : Hid (useP s k a = (0, keepP { s with used := behindP s.used CF } k CR)) := by unfold Hid useP; rw [hgd.out, if_neg (fun h => h t1.out), dv2.out, if_neg (by rw [← hok.out]; decide), ← hN, ← hCF, ← hCR]
  have hmc : Mild CF := hCF ▸ hmG.cutF N
  have hpc : ∀ p ∈ CF, 0 < p.loads := hCF ▸ fun p hp => ((cutF_mild G.parts N hmG.2).2 p hp).1
  replace hN := Lib.hid hN
  replace hCF := Lib.hid hCF
  replace hCR := Lib.hid hCR
  replace hin := Lib.hid hin
  go_wp2_with fail
  go_big_quiet (first | (go_at_call 71; exact Calls.quiet_of_same (hq71.out _)) | (go_at_call 49; exact Calls.quiet_of_same (hq49.out _)))
  obtain ⟨w3, hw3⟩ : ∃ x, x = w2.drewN nq := ⟨_, rfl⟩
  rw [← hw3]
  have hb3 : Below w2.heap.size w2 w3 := by rw [hw3]; exact below_drewN_ _ _
  have hX3 := Lib.hid (hX2.out.later hb3)
  have hx3 : Hid (w3.heap[bh]? = some (.cells (hcells G) 77 (0, 0))) := (hb3.block _ (Array.getElem?_eq_some_iff.1 hx2.out).1).trans hx2.out
  have hrG3 := Lib.hid (hrG2.out.below hb3)
  clear x0 x1 x2 x3 x4 x5 x6 k0 k1 k2 k3 k4 k5 c0 c1 c2 c3 c4 c5 c6 c7 c8 p0 p1 d0 d1 d2 d3 d4 d5 f0 f1 f2 f3 f4 f5 hb3
  replace hw3 := Lib.hid hw3
  obtain ⟨k0, k1, k2, k3, k4, k5⟩ := six_cells hX3.out.store
  obtain ⟨c0, c1, c2, c3, c4, c5, c6, c7, c8⟩ := nine_cells2 hX3.out.chore
  obtain ⟨p0, p1⟩ := cells2 hX3.out.farm
  obtain ⟨d0, d1, d2, d3, d4, d5⟩ := cells6 hX3.out.out
  have f0 := hfz.out _ _ hX3.out 0
  have f1 := hfz.out _ _ hX3.out 1
  have f2 := hfz.out _ _ hX3.out 2
  have f3 := hfz.out _ _ hX3.out 3
  have f4 := hfz.out _ _ hX3.out 4
  have f5 := hfz.out _ _ hX3.out 5
  obtain ⟨x0, x1, x2, x3, x4, x5, x6⟩ := seven_cells hx3.out
  have hcut := Lib.hid (rcut_fresh G.pa G.pc G.parts N w3 hrG3.out hmG ⟨hk0, by omega⟩)
  unfold CutOutF at hcut
  rw [← hCF.out, ← hCR.out] at hcut
  go_wp2_with fail
  go_at_call 72
  (with_reducible refine hcut.out.mono ?_)
  rintro e w4 ⟨A1, ec1, A2, ec2, rfl, r1, r2, hb4, n1, n2⟩
  have hX4 := Lib.hid (hX3.out.later hb4)
  have hz3 := hX3.out.size
  have hbe : Hid (Calls Try.prog 111 #[.slice s.ua s.used.length s.uc, .slice A1 CF.length ec1] w4 (BehOut (behindP s.used CF) w4)) := joined_any _ _ _ _ _ _ _ hX4.out.rows.used r1 hu hmc hpc
  have hlenB : Hid ((behindP s.used CF).length ≤ 140737488351232) := behind_len hu hmc
  obtain ⟨JL, hJL⟩ : ∃ JL, JL = behindP s.used CF := ⟨_, rfl⟩
  rw [← hJL] at hbe hlenB hr
  replace hJL := Lib.hid hJL
  clear x0 x1 x2 x3 x4 x5 x6 k0 k1 k2 k3 k4 k5 c0 c1 c2 c3 c4 c5 c6 c7 c8 p0 p1 d0 d1 d2 d3 d4 d5 f0 f1 f2 f3 f4 f5 hcut
  replace r1 := Lib.hid r1
  replace r2 := Lib.hid r2
  replace n1 := Lib.hid n1
  replace n2 := Lib.hid n2
  replace hb4 := Lib.hid hb4
  replace hmc := Lib.hid hmc
  replace hpc := Lib.hid hpc
  obtain ⟨k0, k1, k2, k3, k4, k5⟩ := six_cells hX4.out.store
  go_wp2_with fail
  go_at_call 111
  (with_reducible refine hbe.out.mono ?_)
  rintro e w5 ⟨A3, ec3, rfl, hr5, hb5⟩
  have hX5 := Lib.hid (hX4.out.later hb5)
  have hz4 := hX4.out.size
  have hn5 : Hid (∀ q, JL ≠ [] → blk A3 = some q → Off s (some (w.heap.size + 1)) q ∧ w.heap.size + 4 ≤ q) := fun q _ e => by
    have h1 := (hr5.lt q (by rw [ownBlock_slice]; exact e)).1
    exact ⟨hX4.out.rows.newOff h1, by omega⟩
  have r25 := Lib.hid (r2.out.below hb5)
  clear k0 k1 k2 k3 k4 k5
  replace hr5 := Lib.hid hr5
  replace hb5 := Lib.hid hb5
  obtain ⟨k0, k1, k2, k3, k4, k5⟩ := six_cells hX5.out.store
  have s4 : w5.frozen? ⟨w.heap.size + 1, 4, none⟩ = false := frozen_of_row w5 _ 4 _ _ hX5.out.store
  go_upto_region 39 with fail
  obtain ⟨w6, hw6⟩ : ∃ x, x = w5.setCell ⟨w.heap.size + 1, 4, none⟩ (.slice A3 JL.length ec3) := ⟨_, rfl⟩
  rw [← hw6]
  obtain ⟨t1', ht1⟩ : ∃ t, t = ({ s with used := JL, ua := A3, uc := ec3 } : Store) := ⟨_, rfl⟩
  have hX6 : Hid (RX s B w A c pl dry a t1' w6) := by rw [hw6, ht1]; exact hX5.out.usedTo (hr5.out.rd hlenB.out) hn5.out
  have hk6 : k < t1'.heaps.length := by rw [ht1]; exact hkl
  have hsame : Hid (SameC (keepP t1' k CR) (keepP { s with used := JL } k CR)) := by unfold Hid; rw [ht1]; exact SameC.keep (s := { s with used := JL, ua := A3, uc := ec3 }) (t := { s with used := JL }) ⟨rfl, rfl, rfl, rfl, rfl, rfl⟩ k CR
  have r26 : RdParts w6 A2 CR := r25.out.keep fun q hl e => by
    rw [hw6]
    exact Below.heap_setCell _ _ _ _ (by have := n2.out q e; show q ≠ w.heap.size + 1; omega)
  have hoR : ∀ x, CR ≠ [] → blk A2 = some x → Off t1' none x := fun x _ e => by rw [ht1]; exact (hX3.out.rows.loose (Nat.le_refl _)).newOff (n2.out x e)
  replace hw6 := Lib.hid hw6
  replace ht1 := Lib.hid ht1
  have hwi : Hid (Calls Try.prog 114 #[storeVal t1', .int .i64 k, .slice A2 CR.length ec2] w6 (WithOut B B (fun q => CR ≠ [] ∧ blk A2 = some q) t1' (keepP t1' k CR) w6)) := with_any B t1' k A2 ec2 CR w6 (hX6.out.rows.loose (Nat.le_refl _)) hX6.out.bLe hk6 r26 hoR
  clear k0 k1 k2 k3 k4 k5 s4 hoR r26
  obtain ⟨k0, k1, k2, k3, k4, k5⟩ := six_cells hX6.out.store
  go_wp2_with fail
  go_at_call 114
  (with_reducible refine hwi.out.mono ?_)
  rintro e w9 ⟨t, rfl, hst9, hrt9, hb9, hf9, hk9, _⟩
  have hz9 := hX6.out.size
  have ho9 : w9.heap[w.heap.size + 1 + 1 + 1]? = some (.cells emptyC 43 (0, 0)) := (hk9 _ (by omega) (fun e => by have := hX6.out.far _ (RX.ownLies (.inr (.inr e))); omega)).trans hX6.out.out
  obtain ⟨d0, d1, d2, d3, d4, d5⟩ := cells6 ho9
  have hfz9 : ∀ j, w9.frozen? ⟨w.heap.size + 1 + 1 + 1, j, none⟩ = false := fun j => frozen_of_row w9 _ j _ _ ho9
  have f0 := hfz9 0
  have f1 := hfz9 1
  have f2 := hfz9 2
  have f3 := hfz9 3
  have f4 := hfz9 4
  have f5 := hfz9 5
  clear hfz9
  replace ho9 := Lib.hid ho9
  replace hb9 := Lib.hid hb9
  replace hst9 := Lib.hid hst9
  replace hrt9 := Lib.hid hrt9
  replace hk9 := Lib.hid hk9
  replace hf9 := Lib.hid hf9
  go_wp2_with fail
  rw [hr.out]
  refine bodyPost_ret (ret_store Try.results78 rfl rfl (set6 _ _ _ _ _ _ ho9.out)) rfl ?_
  have hz := hb9.out.size
  have hB' := hX6.out.hB
  have hq3 : ∀ q, Lies t q → Lies s q ∨ w.heap.size + 4 ≤ q := fun q hq => by
    rcases hf9.out q hq with h1 | h1 | h1
    · exact hX6.out.frm q h1
    · exact (fun q (h : CR ≠ [] ∧ blk A2 = some q) => (.inr (by have := n2.out q h.2; omega) : Lies s q ∨ w.heap.size + 4 ≤ q)) q h1
    · exact .inr (by omega)
  refine ⟨t, rfl, set6_below _ _ _ _ _ _ (hX6.out.below.trans (hb9.out.mono (by have := hX6.out.bLe; omega))) (by omega), fun _ => ⟨hst9.out.trans hsame.out, hrt9.out.put6 (by omega) (fun q hq => ?_) _ _ _ _ _ _, fun q hq => (hq3 q hq).imp id (by omega)⟩, fun q hq hn => (set6_other _ _ _ _ _ _ (by omega)).trans ((hk9.out q (by omega) (fun e => hX6.out.notOwn hq hn (.inr (.inr e)) rfl)).trans (hX6.out.kept q hq hn))⟩
  rcases hq3 q hq with h1 | h1
  · have := hX6.out.low q h1; omega
  · omega
end Go.Proofs.Ytpgkhlpepckfgaa
end
