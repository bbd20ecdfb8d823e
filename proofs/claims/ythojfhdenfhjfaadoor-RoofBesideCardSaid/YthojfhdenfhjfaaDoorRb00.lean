/-
  The law's own functions: ends, edge, edges: walked. PRINTED by genR30.py. The law's own function edges: walked, at a roof that may be. A region that draws its order, where two or three operations may come up at once: all ways are walked. No program is named here. What the laws about beside edges have in common.
-/
import Derived.Test.YthojfhdenfhjfaaDoorRa04
import Derived.Test.YthojfhdenfhjfaaDoorRa13
set_option linter.all false
set_option linter.unusedVariables false
set_option linter.unusedSimpArgs false
section
namespace Go.Proofs.YthojfhdenfhjfaaDoor
open Go.RowKit Go.Lib Go.Shelf

/-- The face's box and the two results'. -/
structure EnF (w : World) (f : Face) (V : World) : Prop where
  b : Below w.heap.size w V
  c : V.heap[w.heap.size]? = some (.cells (fCells f) 45 (0, 0))
set_option maxHeartbeats 2000000 in
set_option maxRecDepth 100000 in
theorem lends_any (f : Face) (k : Nat) (w : World) (hP : RdPnts w f.ca f.corners) (hk : k < f.corners.length) (hl : f.corners.length ≤ 100000) :
    Calls Tryd.prog 19 #[faceVal f, .int .i64 (k : Int)] w fun e w' => e = .returned (.tuple #[pntVal (sideAt f.corners k).a, pntVal (sideAt f.corners k).b]) ∧ Below w.heap.size w w' := by
  obtain ⟨j, hj⟩ : ∃ j, j = (k + 1) % f.corners.length := ⟨_, rfl⟩
  have hjl : j < f.corners.length := by rw [hj]; exact Nat.mod_lt _ (by omega)
  obtain ⟨p, hp⟩ : ∃ p, p = f.corners.getD k default := ⟨_, rfl⟩
  obtain ⟨q, hq⟩ : ∃ q, q = f.corners.getD j default := ⟨_, rfl⟩
  have hsd : Hid (sideAt f.corners k = ⟨p, q⟩) := by unfold Hid sideAt; rw [hp, hq, hj]
  obtain ⟨ad, hA, _⟩ := hP.at2 hk
  have hmod : (((k : Int) + 1).tmod (f.corners.length : Int)) = (j : Int) := by
    rw [hj, Int.tmod_eq_emod_of_nonneg (by omega), Int.natCast_emod]
    rfl
  have hne : ¬ f.corners = [] := fun e => by rw [e] at hk; exact absurd hk (Nat.not_lt_zero _)
  have hwk : IntKind.i64.wrap ((k : Int) + 1) = (k : Int) + 1 := IntWalk.i64_in _ (by omega)
  have hwj : IntKind.i64.wrap (j : Int) = (j : Int) := IntWalk.i64_in _ (by omega)
  obtain ⟨W0, hW0⟩ : ∃ W0, W0 = ((w.alloc (.cells (fCells f) 45)).alloc (.cells #[.int .i64 0, .int .i64 0] 39)).alloc (.cells #[.int .i64 0, .int .i64 0] 39) := ⟨_, rfl⟩
  have hX0 : EnF w f W0 := by rw [hW0]; exact ⟨(((Below.refl _ w).alloc (Nat.le_refl _) _).alloc (by simp) _).alloc (by simp; omega) _, heap_old _ _ _ _ (heap_old _ _ _ _ (heap_new _ _ _ rfl))⟩
  have h1 : W0.heap[w.heap.size + 1]? = some (.cells #[.int .i64 0, .int .i64 0] 39 (0, 0)) := by rw [hW0]; exact heap_old _ _ _ _ (heap_new _ _ _ (by simp))
  have h2 : W0.heap[w.heap.size + 1 + 1]? = some (.cells #[.int .i64 0, .int .i64 0] 39 (0, 0)) := by rw [hW0]; exact heap_new _ _ _ (by simp)
  have hcl : Hid (∀ V, EnF w f V → V.cell? ⟨w.heap.size, 6, none⟩ = some (.slice (some ad) f.corners.length f.cc) ∧ (V.cell? (ad.add (k * 2)) = some (.int .i64 p.x) ∧ V.cell? ⟨(ad.add (k * 2)).block, (ad.add (k * 2)).off + 1, none⟩ = some (.int .i64 p.y)) ∧ (V.cell? (ad.add (j * 2)) = some (.int .i64 q.x) ∧ V.cell? ⟨(ad.add (j * 2)).block, (ad.add (j * 2)).off + 1, none⟩ = some (.int .i64 q.y))) := fun V h => by
    obtain ⟨a1, e1, r1, r2⟩ := (hP.below h.b).at2 hk
    obtain ⟨a2, e2, r3, r4⟩ := (hP.below h.b).at2 hjl
    rw [hA] at e1 e2
    cases e1
    cases e2
    rw [← hp] at r1 r2
    rw [← hq] at r3 r4
    have h6 := (cells7 h.c).2.2.2.2.2.2
    rw [hA] at h6
    exact ⟨h6, ⟨r1, r2⟩, r3, r4⟩
  have hX0' := Lib.hid hX0
  replace hp := Lib.hid hp
  replace hq := Lib.hid hq
  replace hj := Lib.hid hj
  replace hA := Lib.hid hA
  go_enter Tryd.func19, Tryd.ntmps19
  go_upto_region 1 with fail
  rw [← hW0]
  replace hW0 := Lib.hid hW0
  obtain ⟨wq, hwq⟩ : ∃ x, x = W0.drew := ⟨_, rfl⟩
  have hXq : EnF w f wq := by rw [hwq]; exact ⟨hX0.b.drew, hX0.c⟩
  have hq1 : wq.heap[w.heap.size + 1]? = some (.cells #[.int .i64 0, .int .i64 0] 39 (0, 0)) := by rw [hwq]; exact h1
  have hq2 : wq.heap[w.heap.size + 1 + 1]? = some (.cells #[.int .i64 0, .int .i64 0] 39 (0, 0)) := by rw [hwq]; exact h2
  refine wp_region_tree (EnF w f) (.pure 0 (.read 1 (.pure 2 (.pure 3 (.read 4 (.pure 5 (.read 6 (.pure 7 (.pure 8 (.pure 9 (.read 10 (.pure 11 (.pure 12 (.pure 13 (.read 14 (.one 15 (.one 16 .done))))))))))))))))) [16] (by kernel_rfl) (by kernel_rfl) (by rw [← hwq]; exact hXq) ?_
  rw [← hwq]
  replace hwq := Lib.hid hwq
  refine wpTree_pure (v := ?_) rfl (by rfl) ?_ (fun _ _ _ h => h) ?_
  rotate_left
  focus (intro w'; (try simp only [List.getElem_toArray, List.getElem_cons_zero, List.getElem_cons_succ]); go_simp; try with_reducible rfl)
  (try simp only [List.getElem_toArray, List.getElem_cons_zero, List.getElem_cons_succ, Act.put, List.setIfInBounds_toArray, List.set_cons_zero, List.set_cons_succ])
  refine wpTree_take (v := ?_) rfl (by rfl) ?_ (fun _ _ _ h => h) ?_
  rotate_left
  focus (intro w' hSw; obtain ⟨x6, ⟨x0, x1⟩, x2, x3⟩ := hcl.out _ hSw; clear hSw; (try simp only [List.getElem_toArray, List.getElem_cons_zero, List.getElem_cons_succ]); go_simp; try with_reducible rfl)
  (try simp only [List.getElem_toArray, List.getElem_cons_zero, List.getElem_cons_succ, Act.put, List.setIfInBounds_toArray, List.set_cons_zero, List.set_cons_succ])
  refine wpTree_pure (v := ?_) rfl (by rfl) ?_ (fun _ _ _ h => h) ?_
  rotate_left
  focus (intro w'; (try simp only [List.getElem_toArray, List.getElem_cons_zero, List.getElem_cons_succ]); go_simp; try with_reducible rfl)
  (try simp only [List.getElem_toArray, List.getElem_cons_zero, List.getElem_cons_succ, Act.put, List.setIfInBounds_toArray, List.set_cons_zero, List.set_cons_succ])
  refine wpTree_pure (v := ?_) rfl (by rfl) ?_ (fun _ _ _ h => h) ?_
  rotate_left
  focus (intro w'; (try simp only [List.getElem_toArray, List.getElem_cons_zero, List.getElem_cons_succ]); go_simp; try with_reducible rfl)
  (try simp only [List.getElem_toArray, List.getElem_cons_zero, List.getElem_cons_succ, Act.put, List.setIfInBounds_toArray, List.set_cons_zero, List.set_cons_succ])
  refine wpTree_take (v := ?_) rfl (by rfl) ?_ (fun _ _ _ h => h) ?_
  rotate_left
  focus (intro w' hSw; obtain ⟨x6, ⟨x0, x1⟩, x2, x3⟩ := hcl.out _ hSw; clear hSw; (try simp only [List.getElem_toArray, List.getElem_cons_zero, List.getElem_cons_succ]); go_simp; try with_reducible rfl)
  (try simp only [List.getElem_toArray, List.getElem_cons_zero, List.getElem_cons_succ, Act.put, List.setIfInBounds_toArray, List.set_cons_zero, List.set_cons_succ])
  refine wpTree_pure (v := ?_) rfl (by rfl) ?_ (fun _ _ _ h => h) ?_
  rotate_left
  focus (intro w'; (try simp only [List.getElem_toArray, List.getElem_cons_zero, List.getElem_cons_succ]); go_simp; try with_reducible rfl)
  (try simp only [List.getElem_toArray, List.getElem_cons_zero, List.getElem_cons_succ, Act.put, List.setIfInBounds_toArray, List.set_cons_zero, List.set_cons_succ])
  refine wpTree_take (v := ?_) rfl (by rfl) ?_ (fun _ _ _ h => h) ?_
  rotate_left
  focus (intro w' hSw; obtain ⟨x6, ⟨x0, x1⟩, x2, x3⟩ := hcl.out _ hSw; clear hSw; (try simp only [List.getElem_toArray, List.getElem_cons_zero, List.getElem_cons_succ]); go_simp; try with_reducible rfl)
  (try simp only [List.getElem_toArray, List.getElem_cons_zero, List.getElem_cons_succ, Act.put, List.setIfInBounds_toArray, List.set_cons_zero, List.set_cons_succ])
  refine wpTree_pure (v := ?_) rfl (by rfl) ?_ (fun _ _ _ h => h) ?_
  rotate_left
  focus (intro w'; (try simp only [List.getElem_toArray, List.getElem_cons_zero, List.getElem_cons_succ]); go_simp; try with_reducible rfl)
  (try simp only [List.getElem_toArray, List.getElem_cons_zero, List.getElem_cons_succ, Act.put, List.setIfInBounds_toArray, List.set_cons_zero, List.set_cons_succ])
  refine wpTree_pure (v := ?_) rfl (by rfl) ?_ (fun _ _ _ h => h) ?_
  rotate_left
  focus (intro w'; (try simp only [List.getElem_toArray, List.getElem_cons_zero, List.getElem_cons_succ]); go_simp; try with_reducible rfl)
  (try simp only [List.getElem_toArray, List.getElem_cons_zero, List.getElem_cons_succ, Act.put, List.setIfInBounds_toArray, List.set_cons_zero, List.set_cons_succ])
  refine wpTree_pure (v := ?_) rfl (by rfl) ?_ (fun _ _ _ h => h) ?_
  rotate_left
  focus (intro w'; (try simp only [List.getElem_toArray, List.getElem_cons_zero, List.getElem_cons_succ]); go_simp; try with_reducible rfl)
  (try simp only [List.getElem_toArray, List.getElem_cons_zero, List.getElem_cons_succ, Act.put, List.setIfInBounds_toArray, List.set_cons_zero, List.set_cons_succ])
  refine wpTree_take (v := ?_) rfl (by rfl) ?_ (fun _ _ _ h => h) ?_
  rotate_left
  focus (intro w' hSw; obtain ⟨x6, ⟨x0, x1⟩, x2, x3⟩ := hcl.out _ hSw; clear hSw; (try simp only [List.getElem_toArray, List.getElem_cons_zero, List.getElem_cons_succ]); go_simp; try with_reducible rfl)
  (try simp only [List.getElem_toArray, List.getElem_cons_zero, List.getElem_cons_succ, Act.put, List.setIfInBounds_toArray, List.set_cons_zero, List.set_cons_succ])
  refine wpTree_pure (v := ?_) rfl (by rfl) ?_ (fun _ _ _ h => h) ?_
  rotate_left
  focus (intro w'; (try simp only [List.getElem_toArray, List.getElem_cons_zero, List.getElem_cons_succ]); go_simp; try with_reducible rfl)
  (try simp only [List.getElem_toArray, List.getElem_cons_zero, List.getElem_cons_succ, Act.put, List.setIfInBounds_toArray, List.set_cons_zero, List.set_cons_succ])
  refine wpTree_pure (v := ?_) rfl (by rfl) ?_ (fun _ _ _ h => h) ?_
  rotate_left
  focus (intro w'; (try simp only [List.getElem_toArray, List.getElem_cons_zero, List.getElem_cons_succ]); go_simp; try with_reducible rfl)
  (try simp only [List.getElem_toArray, List.getElem_cons_zero, List.getElem_cons_succ, Act.put, List.setIfInBounds_toArray, List.set_cons_zero, List.set_cons_succ])
  refine wpTree_pure (v := ?_) rfl (by rfl) ?_ (fun _ _ _ h => h) ?_
  rotate_left
  focus (intro w'; (try simp only [List.getElem_toArray, List.getElem_cons_zero, List.getElem_cons_succ]); go_simp; try with_reducible rfl)
  (try simp only [List.getElem_toArray, List.getElem_cons_zero, List.getElem_cons_succ, Act.put, List.setIfInBounds_toArray, List.set_cons_zero, List.set_cons_succ])
  refine wpTree_take (v := ?_) rfl (by rfl) ?_ (fun _ _ _ h => h) ?_
  rotate_left
  focus (intro w' hSw; obtain ⟨x6, ⟨x0, x1⟩, x2, x3⟩ := hcl.out _ hSw; clear hSw; (try simp only [List.getElem_toArray, List.getElem_cons_zero, List.getElem_cons_succ]); go_simp; try with_reducible rfl)
  (try simp only [List.getElem_toArray, List.getElem_cons_zero, List.getElem_cons_succ, Act.put, List.setIfInBounds_toArray, List.set_cons_zero, List.set_cons_succ])
  refine wpTree_do rfl (by rfl) ?_
  (try simp only [List.getElem_toArray, List.getElem_cons_zero, List.getElem_cons_succ])
  obtain ⟨y0, y1⟩ := cells2 hq1
  have f0 := frozen_row hq1 0
  have f1 := frozen_row hq1 1
  have hq4 := set_cells (set_cells hq1 (o := 0) (.int .i64 p.x)) (o := 1) (.int .i64 p.y)
  go_simp
  refine ⟨by intros; exact ⟨(hXq.b.setCell (p := ⟨w.heap.size + 1, 0, none⟩) (by simp) _).setCell (p := ⟨w.heap.size + 1, 1, none⟩) (by simp) _, (Below.heap_setCell _ _ _ _ (by simp)).trans ((Below.heap_setCell _ _ _ _ (by simp)).trans hXq.c)⟩, ?_⟩
  (try simp only [List.getElem_toArray, List.getElem_cons_zero, List.getElem_cons_succ, Act.put, List.setIfInBounds_toArray, List.set_cons_zero, List.set_cons_succ])
  refine wpTree_do rfl (by rfl) ?_
  (try simp only [List.getElem_toArray, List.getElem_cons_zero, List.getElem_cons_succ])
  have hq5 : ((wq.setCell ⟨w.heap.size + 1, 0, none⟩ (.int .i64 p.x)).setCell ⟨w.heap.size + 1, 1, none⟩ (.int .i64 p.y)).heap[w.heap.size + 1 + 1]? = some (.cells #[.int .i64 0, .int .i64 0] 39 (0, 0)) := (Below.heap_setCell _ _ _ _ (by simp)).trans ((Below.heap_setCell _ _ _ _ (by simp)).trans hq2)
  obtain ⟨u0, u1⟩ := cells2 hq5
  have g0 := frozen_row hq5 0
  have g1 := frozen_row hq5 1
  go_simp
  (try simp only [List.getElem_toArray, List.getElem_cons_zero, List.getElem_cons_succ, Act.put, List.setIfInBounds_toArray, List.set_cons_zero, List.set_cons_succ])
  (try unfold wpTree)
  obtain ⟨wz, hwz⟩ : ∃ z, z = ((((wq.setCell ⟨w.heap.size + 1, 0, none⟩ (.int .i64 p.x)).setCell ⟨w.heap.size + 1, 1, none⟩ (.int .i64 p.y)).setCell ⟨w.heap.size + 1 + 1, 0, none⟩ (.int .i64 q.x)).setCell ⟨w.heap.size + 1 + 1, 1, none⟩ (.int .i64 q.y)) := ⟨_, rfl⟩
  have hB : Below w.heap.size w wz := by rw [hwz]; exact (((hXq.b.setCell (p := ⟨w.heap.size + 1, 0, none⟩) (by simp) _).setCell (p := ⟨w.heap.size + 1, 1, none⟩) (by simp) _).setCell (p := ⟨w.heap.size + 1 + 1, 0, none⟩) (by simp; omega) _).setCell (p := ⟨w.heap.size + 1 + 1, 1, none⟩) (by simp; omega) _
  have e1 : wz.heap[w.heap.size + 1]? = some (.cells #[.int .i64 p.x, .int .i64 p.y] 39 (0, 0)) := by rw [hwz]; exact (Below.heap_setCell _ _ _ _ (by simp)).trans ((Below.heap_setCell _ _ _ _ (by simp)).trans hq4)
  have e2 : wz.heap[w.heap.size + 1 + 1]? = some (.cells #[.int .i64 q.x, .int .i64 q.y] 39 (0, 0)) := by rw [hwz]; exact set_cells (set_cells hq5 (o := 0) (.int .i64 q.x)) (o := 1) (.int .i64 q.y)
  rw [← hwz]
  replace hwz := Lib.hid hwz
  obtain ⟨r0, r1⟩ := cells2 e1
  obtain ⟨r2, r3⟩ := cells2 e2
  clear y0 y1 f0 f1 u0 u1 g0 g1
  go_wp2
  exact bodyPost_ret (v := .tuple #[pntVal p, pntVal q]) (by simp [results, Tryd.results19, go_sem, r0, r1, r2, r3]) rfl ⟨by rw [hsd.out], hB⟩
abbrev rowVal (r : ERow) : Value := .agg (rowCells r)
def set5 (W : World) (b : Nat) (r : ERow) : World := ((((W.setCell ⟨b, 0, none⟩ (.int .i64 r.face)).setCell ⟨b, 1, none⟩ (.int .i64 r.number)).setCell ⟨b, 2, none⟩ (.int .i64 r.kind)).setCell ⟨b, 3, none⟩ (.int .i64 r.withF)).setCell ⟨b, 4, none⟩ (.int .i64 r.atE)
theorem set5_row {W : World} {b : Nat} {la : ERow} (r : ERow) (h : W.heap[b]? = some (.cells (rowCells la) 35 (0, 0))) : (set5 W b r).heap[b]? = some (.cells (rowCells r) 35 (0, 0)) :=
  set_cells (set_cells (set_cells (set_cells (set_cells h _) _) _) _) _
theorem set5_below {W0 W : World} {n b : Nat} (r : ERow) (h : Below n W0 W) (hb : n ≤ b) : Below n W0 (set5 W b r) := ((((h.setCell (p := ⟨b, 0, none⟩) hb _).setCell (p := ⟨b, 1, none⟩) hb _).setCell (p := ⟨b, 2, none⟩) hb _).setCell (p := ⟨b, 3, none⟩) hb _).setCell (p := ⟨b, 4, none⟩) hb _
abbrev noRow : ERow := ⟨0, 0, 0, 0, 0⟩
set_option maxHeartbeats 2000000 in
set_option maxRecDepth 100000 in
theorem ledge_any (r : Roof) (A : Option Addr) (c : Nat) (L : List ERow) (i k : Nat) (w : World) (hR : RdRoof w r) (hL : FlatRow encRow 5 w A L) (hi : i < r.faces.length) (hk : k < lenF r.faces i) (hle : offs r.faces i + k < L.length) (hfew : ∀ j, j < r.faces.length → lenF r.faces j ≤ 100) (hn : r.faces.length ≤ 100) :
    Calls Tryd.prog 18 #[roofVal r, .slice A L.length c, .int .i64 (i : Int), .int .i64 (k : Int)] w fun e w' => e = .returned (.tuple #[rowVal (L.getD (offs r.faces i + k) default), .bool true]) ∧ Below w.heap.size w w' := by
  obtain ⟨fs, os, fa, fc, oa, oc⟩ := r
  obtain ⟨hRF, hRO, hcf, hco⟩ := hR
  dsimp only [roofVal] at *
  obtain ⟨x, hx⟩ : ∃ x, x = L.getD (offs fs i + k) default := ⟨_, rfl⟩
  rw [← hx]
  obtain ⟨W0, hW0⟩ : ∃ W0, W0 = (w.alloc (.cells #[.slice fa fs.length fc, .slice oa os.length oc] 25)).alloc (.cells (rowCells noRow) 35) := ⟨_, rfl⟩
  have hB0 : Hid (Below w.heap.size w W0) := by rw [hW0]; exact ((Below.refl _ w).alloc (Nat.le_refl _) _).alloc (by simp) _
  have hc0 : Hid (W0.heap[w.heap.size]? = some (.cells #[.slice fa fs.length fc, .slice oa os.length oc] 25 (0, 0))) := by rw [hW0]; exact heap_old _ _ _ _ (heap_new _ _ _ rfl)
  have hz0 : Hid (W0.heap[w.heap.size + 1]? = some (.cells (rowCells noRow) 35 (0, 0))) := by rw [hW0]; exact heap_new _ _ _ (by simp)
  obtain ⟨x0, x1⟩ := cells2 hc0.out
  obtain ⟨adf, hA, p0, p1, p2, p3, p4, p5, p6⟩ := (hRF.below hB0.out).at7 hi
  obtain ⟨ad, hA2, q0, q1, q2, q3, q4⟩ := (hL.below hB0.out).at_getD hle rfl
  subst hA
  subst hA2
  rw [← hx] at q0 q1 q2 q3 q4
  obtain ⟨f, hf⟩ : ∃ f, f = fs.getD i default := ⟨_, rfl⟩
  rw [← hf] at p6
  have hkf : k < f.corners.length := by unfold lenF at hk; rw [← hf] at hk; exact hk
  have g1 : ¬ ((i : Int) < 0) := by omega
  have g2 : ¬ ((i : Int) ≥ (fs.length : Int)) := by omega
  have g3 : ¬ ((k : Int) < 0) := by omega
  have g4 : ¬ ((k : Int) ≥ (f.corners.length : Int)) := by omega
  have hob : ∀ j, j ≤ fs.length → offs fs j ≤ 10000 := fun j hj => by
    have h1 := offs_small hfew j hj
    have h2 : j * 100 ≤ 100 * 100 := Nat.mul_le_mul_right _ (by omega)
    omega
  have hkl := hfew i hi
  have hrow2 := Lib.hid (set5_row x hz0.out)
  have hbl2 := Lib.hid (set5_below x hB0.out (Nat.le_succ _))
  obtain ⟨z0, z1, z2, z3, z4⟩ := cells5 hz0.out
  have f0 := frozen_row hz0.out 0
  have f1 := frozen_row hz0.out 1
  have f2 := frozen_row hz0.out 2
  have f3 := frozen_row hz0.out 3
  have f4 := frozen_row hz0.out 4
  have hRF0 := Lib.hid (hRF.below hB0.out)
  have hnl : offs fs i + k < L.length := hle
  replace hf := Lib.hid hf
  replace hx := Lib.hid hx
  clear p0 p1 p2 p3 p4 p5
  go_enter Tryd.func18, Tryd.ntmps18
  go_upto_region 1 with fail
  rw [← hW0]
  replace hW0 := Lib.hid hW0
  go_wp2
  go_loopw [3, 10] (fun y t wr => ∃ m : Nat, t = .int .i64 m ∧ y = .int .i64 ((k + offs fs m : Nat) : Int) ∧ m ≤ i ∧ Hid (wr = W0)) (fun _ t _ => i - (intOf t).toNat)
  case atStart => exact ⟨0, rfl, by simp [offs], Nat.zero_le _, rfl⟩
  case round =>
    obtain ⟨m, rfl, rfl, hm, hwr⟩ := hrel
    have ewr := hwr.out.symm
    subst ewr
    by_cases hlt : m < i
    · obtain ⟨a3, e3, _, _, _, _, _, _, s6⟩ := hRF0.out.at7 (show m < fs.length by omega)
      cases e3
      have hmc := hfew m (by omega)
      have ho := hob m (by omega)
      obtain ⟨g, hg⟩ : ∃ g, g = fs.getD m default := ⟨_, rfl⟩
      rw [← hg] at s6
      have hlen : lenF fs m = g.corners.length := by unfold lenF; rw [← hg]
      have hoff : offs fs (m + 1) = offs fs m + g.corners.length := by rw [offs, hlen]
      rw [hlen] at hmc
      obtain ⟨of, hof⟩ : ∃ x, x = k + offs fs m := ⟨_, rfl⟩
      have hof2 : k + offs fs (m + 1) = of + g.corners.length := by rw [hoff, hof]; omega
      rw [← hof]
      have hwo : IntKind.i64.wrap ((of : Int) + (g.corners.length : Int)) = (of : Int) + (g.corners.length : Int) := IntWalk.i64_in _ (by omega)
      have hwk : IntKind.i64.wrap ((m : Int) + 1) = (m : Int) + 1 := IntWalk.i64_in _ (by omega)
      replace hg := Lib.hid hg
      replace hof := Lib.hid hof
      replace hlen := Lib.hid hlen
      replace hoff := Lib.hid hoff
      replace hof2 := Lib.hid hof2
      go_wp2
      exact ⟨⟨m + 1, by go_num, by rw [hof2.out]; push_cast; rfl, by omega, by unfold Hid; first | rfl | trivial⟩, by simp only [intOf]; omega⟩
    · obtain rfl : m = i := by omega
      obtain ⟨ix, hix⟩ : ∃ x, x = offs fs m + k := ⟨_, rfl⟩
      rw [show k + offs fs m = ix by omega]
      rw [← hix] at q0 q1 q2 q3 q4 hnl
      have hlt2 : (ix : Int) < (L.length : Int) := by omega
      replace hix := Lib.hid hix
      go_wp2
      obtain ⟨wz, hwz⟩ : ∃ z, z = set5 W0 (w.heap.size + 1) x := ⟨_, rfl⟩
      have hz := hrow2.out
      have hzb := hbl2.out
      trace_state
      show bodyPost _ _ _ _ _ (set5 W0 (w.heap.size + 1) x)
      rw [← hwz] at hz hzb ⊢
      obtain ⟨r0, r1, r2, r3, r4⟩ := cells5 hz
      refine bodyPost_ret (v := .tuple #[rowVal x, .bool true]) (by simp [results, Tryd.results18, go_sem, r0, r1, r2, r3, r4]) rfl ⟨rfl, hzb⟩
end Go.Proofs.YthojfhdenfhjfaaDoor
end
section
namespace Go.Proofs.YthojfhdenfhjfaaDoor
open Go.RowKit Go.Lib Go.Shelf

set_option maxHeartbeats 2000000 in
set_option maxRecDepth 100000 in
theorem ledges_any (r : Roof) (w : World) (hR : RdRoof w r) (hfa : FaX w) (hz : checkR r = 0) (hlf : r.faces.length ≤ 100000) (hlo : r.opens.length ≤ 100000) :
    Calls Tryd.prog 17 #[roofVal r] w fun e w' => Below w.heap.size w w' ∧ ∃ A c, e = .returned (.tuple #[.slice A (rowsL r.faces).length c, .bool true]) ∧ FlatRow encRow 5 w' A (rowsL r.faces) := by
  have hok := OkFs.of hz
  have c35 := fun V (hV : Below w.heap.size w V) => edgesR_any r V (hR.below hV) (hfa.later hV) hlf hlo
  have c35' : Hid (∀ V, Below w.heap.size w V → Calls Tryd.prog 35 #[roofVal r] V fun e w' => Below V.heap.size V w' ∧ ∃ A c, e = .returned (.tuple #[.slice A (rowsL r.faces).length c, .int .i64 0]) ∧ FlatRow encRow 5 w' A (rowsL r.faces)) := fun V hV => by
    refine (c35 V hV).mono ?_
    rintro e w' ⟨h1, h2 | h2⟩
    · exact absurd hz h2.1
    · exact ⟨h1, h2.2⟩
  clear c35
  obtain ⟨fs, os, fa, fc, oa, oc⟩ := r
  obtain ⟨hRF, hRO, hcf, hco⟩ := hR
  dsimp only [roofVal] at *
  have hB0 : Hid (Below w.heap.size w (w.alloc (.cells #[.slice fa fs.length fc, .slice oa os.length oc] 25))) := (Below.refl _ w).alloc (Nat.le_refl _) _
  have hc0 : Hid ((w.alloc (.cells #[.slice fa fs.length fc, .slice oa os.length oc] 25)).heap[w.heap.size]? = some (.cells #[.slice fa fs.length fc, .slice oa os.length oc] 25 (0, 0))) := heap_new _ _ _ rfl
  have hrl : (rowsL fs).length = offs fs fs.length := rows_len fs
  have hob : ∀ j, j ≤ fs.length → offs fs j ≤ 1000 := fun j hj => by
    have h1 := offs_small (c := 12) (fun i hi => (hok.face i hi).most) j hj
    have h2 : j * 12 ≤ 16 * 12 := Nat.mul_le_mul_right _ (by have := hok.most; omega)
    omega
  obtain ⟨n, hn⟩ : ∃ n, n = (rowsL fs).length := ⟨_, rfl⟩
  rw [← hn] at c35' hrl ⊢
  replace hrl := Lib.hid hrl
  replace hn := Lib.hid hn
  have hmost := hok.most
  have hok' := Lib.hid hok
  clear hok hfa hz
  go_enter Tryd.func17, Tryd.ntmps17
  go_wp2_with (go_at_call 35; (with_reducible refine (c35'.out _ hB0.out).mono ?_); rintro e w1 ⟨hb1, A, c, rfl, hrow⟩)
  have hBw : Hid (Below w.heap.size w w1) := hB0.out.trans (hb1.mono hB0.out.size)
  have hc1 : w1.heap[w.heap.size]? = some (.cells #[.slice fa fs.length fc, .slice oa os.length oc] 25 (0, 0)) := (hb1.block _ (lt_block hc0.out)).trans hc0.out
  obtain ⟨x0, x1⟩ := cells2 hc1
  have hRF1 := Lib.hid (hRF.below hBw.out)
  have hrow' := Lib.hid hrow
  clear hrow
  go_loopw [6, 7] (fun y t wr => ∃ i : Nat, t = .int .i64 i ∧ y = .int .i64 (offs fs i : Nat) ∧ i ≤ fs.length ∧ Hid (wr = w1)) (fun _ t _ => fs.length - (intOf t).toNat)
  case atStart => exact ⟨0, rfl, by simp [offs], Nat.zero_le _, rfl⟩
  case round =>
    obtain ⟨i, rfl, rfl, hi, hwr⟩ := hrel
    have ewr := hwr.out.symm
    subst ewr
    by_cases hlt : i < fs.length
    · obtain ⟨a3, e3, _, _, _, _, _, _, s6⟩ := hRF1.out.at7 hlt
      subst e3
      obtain ⟨g, hg⟩ : ∃ g, g = fs.getD i default := ⟨_, rfl⟩
      rw [← hg] at s6
      have hlen : lenF fs i = g.corners.length := by unfold lenF; rw [← hg]
      have hoff : Hid (offs fs (i + 1) = offs fs i + g.corners.length) := by unfold Hid; rw [offs, hlen]
      have hgl : g.corners.length ≤ 12 := by rw [hg]; exact (hok'.out.face i hlt).most
      have hom : offs fs i + g.corners.length ≤ n := by
        rw [hrl.out, ← hoff.out]
        exact offs_mono fs (by omega)
      have hn1 := hob fs.length (Nat.le_refl _)
      rw [← hrl.out] at hn1
      have hra : Hid (∀ k, k < g.corners.length → (rowsL fs).getD (offs fs i + k) default = rowE fs ⟨(i : Int), (k : Int), sideAt (fs.getD i default).corners k⟩) := fun k hk => rows_at fs hlt (by rw [hlen]; exact hk)
      obtain ⟨of, hof⟩ : ∃ x, x = offs fs i := ⟨_, rfl⟩
      rw [← hof] at hoff hom hra ⊢
      replace hg := Lib.hid hg
      replace hlen := Lib.hid hlen
      replace hof := Lib.hid hof
      have hwi : IntKind.i64.wrap ((i : Int) + 1) = (i : Int) + 1 := IntWalk.i64_in _ (by omega)
      go_wp2
      go_loopw [6, 8] (fun y t wr => ∃ k : Nat, t = .int .i64 k ∧ y = .int .i64 ((of + k : Nat) : Int) ∧ k ≤ g.corners.length ∧ Hid (wr = w1)) (fun _ t _ => g.corners.length - (intOf t).toNat)
      case atStart => exact ⟨0, rfl, by simp, Nat.zero_le _, rfl⟩
      case round =>
        obtain ⟨k, rfl, rfl, hk, hwr⟩ := hrel
        have ewr := hwr.out.symm
        subst ewr
        by_cases hlk : k < g.corners.length
        · have hrw := hra.out k hlk
          have hix : of + k < (rowsL fs).length := by rw [← hn.out]; omega
          obtain ⟨ad, hA2, q0, q1, q2, q3, q4⟩ := hrow'.out.at_getD hix rfl
          subst hA2
          have hfq := rowE_face fs ⟨(i : Int), (k : Int), sideAt (fs.getD i default).corners k⟩
          rw [hrw] at q0 q1 q2 q3 q4
          rw [hfq.1] at q0
          rw [hfq.2.1] at q1
          dsimp only at q0 q1
          obtain ⟨ix, hixe⟩ : ∃ x, x = of + k := ⟨_, rfl⟩
          rw [← hixe] at q0 q1 q2 q3 q4 hix ⊢
          have hix2 : ix < n := by omega
          have hb1 : ¬ ((ix : Int) ≥ (n : Int)) := by omega
          have hix3 : (ix : Int) < (n : Int) := by omega
          have hwx : IntKind.i64.wrap ((ix : Int) + 1) = (ix : Int) + 1 := IntWalk.i64_in _ (by omega)
          have hwk : IntKind.i64.wrap ((k : Int) + 1) = (k : Int) + 1 := IntWalk.i64_in _ (by omega)
          have hnx : Hid (of + (k + 1) = ix + 1) := by unfold Hid; omega
          replace hixe := Lib.hid hixe
          replace hrw := Lib.hid hrw
          replace hfq := Lib.hid hfq
          clear q2 q3 q4
          go_wp2
          exact ⟨⟨k + 1, by go_num, by rw [hnx.out]; push_cast; rfl, by omega, by unfold Hid; first | rfl | trivial⟩, by simp only [intOf]; omega⟩
        · obtain rfl : k = g.corners.length := by omega
          go_wp2
          exact ⟨⟨i + 1, by go_num, by rw [hoff.out], by omega, by unfold Hid; first | rfl | trivial⟩, by simp only [intOf]; omega⟩
    · obtain rfl : i = fs.length := by omega
      rw [← hrl.out]
      go_wp2
      refine bodyPost_ret (v := .tuple #[.slice A n c, .bool true]) (by simp [results, Tryd.results17, go_sem]) rfl ?_
      first | exact ⟨hBw.out, A, c, rfl, hrow'.out⟩ | exact ⟨hBw.out, A, ⟨c, rfl⟩, hrow'.out⟩
end Go.Proofs.YthojfhdenfhjfaaDoor
end
section
namespace Go.Proofs.YthojfhdenfhjfaaDoor
open Go

/-- The moves: one that only computes; one that reads; one that is carried out, when it alone may come up; two, either of which may come up. -/
inductive Mov3 where
  | done
  | pure (i : Nat) (m : Mov3)
  | read (i : Nat) (m : Mov3)
  | one (i : Nat) (m : Mov3)
  | two (i : Nat) (m : Mov3) (j : Nat) (m' : Mov3)
  | three (i : Nat) (m : Mov3) (j : Nat) (m' : Mov3) (k : Nat) (m'' : Mov3)
def Mov3.len : Mov3 → Nat
  | .done => 0
  | .pure _ m => m.len + 1
  | .read _ m => m.len + 1
  | .one _ m => m.len + 1
  | .two _ m _ _ => m.len + 1
  | .three _ m _ _ _ _ => m.len + 1

section
variable {P : Program} {ops : Array Oper} {md : Region.Mode} {S : World → Prop} {Q : Exit → Act → World → Prop} {L : List Nat}

def wpTri (P : Program) (ops : Array Oper) (Q : Exit → Act → World → Prop) (S : World → Prop) (L : List Nat) : Mov3 → Act → World → Prop
  | .done, a, w => Q .normal a w
  | .pure i m, a, w => ∃ o v, ops[i]? = some o ∧ YieldsIf P ops (fun _ => True) o v a ∧ (∀ c a w, Q (.panic c) (a.put o.dst v) w → Q (.panic c) a w) ∧ wpTri P ops Q S L m (a.put o.dst v) w
  | .read i m, a, w => ∃ o v, ops[i]? = some o ∧ YieldsIf P ops S o v a ∧ (∀ c a w, Q (.panic c) (a.put o.dst v) w → Q (.panic c) a w) ∧ wpTri P ops Q S L m (a.put o.dst v) w
  | .one i m, a, w => wpOp P ops Q i (fun a' w' => (i ∉ L → S w → S w') ∧ wpTri P ops Q S L m a' w') a w
  | .two i m j m', a, w => wpOp P ops Q i (fun a' w' => (i ∉ L → S w → S w') ∧ wpTri P ops Q S L m a' w') a w ∧ wpOp P ops Q j (fun a' w' => (j ∉ L → S w → S w') ∧ wpTri P ops Q S L m' a' w') a w
  | .three i m j m' k m'', a, w => wpOp P ops Q i (fun a' w' => (i ∉ L → S w → S w') ∧ wpTri P ops Q S L m a' w') a w ∧ wpOp P ops Q j (fun a' w' => (j ∉ L → S w → S w') ∧ wpTri P ops Q S L m' a' w') a w ∧ wpOp P ops Q k (fun a' w' => (k ∉ L → S w → S w') ∧ wpTri P ops Q S L m'' a' w') a w
def triOk (md : Region.Mode) (ops : Array Oper) (L : List Nat) : Mov3 → Bool → Array Bool → Bool
  | .done, _, listed => (Region.ready md ops listed).isEmpty
  | .pure i m, late, listed => (Region.ready md ops listed).contains i && Region.free md ops listed i && triOk md ops L m late (listed.setIfInBounds i true)
  | .read i m, late, listed => (Region.ready md ops listed).contains i && Region.free md ops listed i && (!late && lateB md ops L i) && triOk md ops L m late (listed.setIfInBounds i true)
  | .one i m, late, listed => (Region.ready md ops listed == [i]) && triOk md ops L m (late || L.contains i) (listed.setIfInBounds i true)
  | .two i m j m', late, listed => (Region.ready md ops listed == [i, j]) && (m.len == m'.len) && triOk md ops L m (late || L.contains i) (listed.setIfInBounds i true) && triOk md ops L m' (late || L.contains j) (listed.setIfInBounds j true)
  | .three i m j m' k m'', late, listed => (Region.ready md ops listed == [i, j, k]) && (m.len == m'.len) && (m.len == m''.len) && triOk md ops L m (late || L.contains i) (listed.setIfInBounds i true) && triOk md ops L m' (late || L.contains j) (listed.setIfInBounds j true) && triOk md ops L m'' (late || L.contains k) (listed.setIfInBounds k true)

theorem wpAnyL2_tri (hs : Region.noSelect ops = true) : ∀ (m : Mov3) (late : Bool) (listed : Array Bool) (a : Act) (w : World), Closed md ops listed → (late = false → S w) → triOk md ops L m late listed = true → wpTri P ops Q S L m a w → wpAnyL2 P md ops Q S L m.len listed a w
  | .done, _, _, _, _, _, _, hB, h => ⟨by simpa [triOk] using hB, h⟩
  | .pure i m, late, listed, a, w, hc, hS, hB, h => by
    simp only [triOk, Bool.and_eq_true] at hB
    obtain ⟨⟨hr, hf⟩, hB'⟩ := hB
    obtain ⟨o, v, ho, hy, hQ, hK⟩ := h
    have hr' : i ∈ Region.ready md ops listed := by simpa using hr
    exact wpAnyL2_pure ho (Region.noSelect_spec hs) hQ m.len listed a w (Region.free_spec ho hf) hr' hy
      (wpAnyL2_tri hs m late _ _ _ (hc.set hr') hS hB' hK)
  | .read i m, late, listed, a, w, hc, hS, hB, h => by
    simp only [triOk, Bool.and_eq_true] at hB
    obtain ⟨⟨⟨hr, hf⟩, hlt, hlb⟩, hB'⟩ := hB
    obtain ⟨o, v, ho, hy, hQ, hK⟩ := h
    have hr' : i ∈ Region.ready md ops listed := by simpa using hr
    exact wpAnyL2_read (late_of hlb) ho (Region.noSelect_spec hs) hQ m.len listed a w hc (Region.free_spec ho hf) hr' hy (hS (by simpa using hlt))
      (wpAnyL2_tri hs m late _ _ _ (hc.set hr') hS hB' hK)
  | .one i m, late, listed, a, w, hc, hS, hB, h => by
    simp only [triOk, Bool.and_eq_true, beq_iff_eq] at hB
    obtain ⟨hr, hB'⟩ := hB
    have hr' : i ∈ Region.ready md ops listed := by rw [hr]; simp
    refine ⟨fun h0 => (by rw [h0] at hr; cases hr), fun j hj => ?_⟩
    rw [hr] at hj
    have : j = i := by simpa using hj
    subst this
    refine wpOp_mono (fun a' w' h' => ⟨h'.1, wpAnyL2_tri hs m _ _ a' w' (hc.set hr') (fun hne => ?_) hB' h'.2⟩) h
    rw [Bool.or_eq_false_iff] at hne
    exact h'.1 (by simpa using hne.2) (hS hne.1)
  | .two i m j m', late, listed, a, w, hc, hS, hB, h => by
    simp only [triOk, Bool.and_eq_true, beq_iff_eq] at hB
    obtain ⟨⟨⟨hr, hz⟩, hB1⟩, hB2⟩ := hB
    have hri : i ∈ Region.ready md ops listed := by rw [hr]; simp
    have hrj : j ∈ Region.ready md ops listed := by rw [hr]; simp
    refine ⟨fun h0 => (by rw [h0] at hr; cases hr), fun k hk => ?_⟩
    rw [hr] at hk
    rcases List.mem_cons.1 hk with rfl | hk
    · refine wpOp_mono (fun a' w' h' => ⟨h'.1, wpAnyL2_tri hs m _ _ a' w' (hc.set hri) (fun hne => ?_) hB1 h'.2⟩) h.1
      rw [Bool.or_eq_false_iff] at hne
      exact h'.1 (by simpa using hne.2) (hS hne.1)
    · have : k = j := by simpa using hk
      subst this
      refine wpOp_mono (fun a' w' h' => ⟨h'.1, ?_⟩) h.2
      show wpAnyL2 P md ops Q S L m.len _ a' w'
      rw [hz]
      refine wpAnyL2_tri hs m' _ _ a' w' (hc.set hrj) (fun hne => ?_) hB2 h'.2
      rw [Bool.or_eq_false_iff] at hne
      exact h'.1 (by simpa using hne.2) (hS hne.1)
  | .three i m j m' k m'', late, listed, a, w, hc, hS, hB, h => by
    simp only [triOk, Bool.and_eq_true, beq_iff_eq] at hB
    obtain ⟨⟨⟨⟨⟨hr, hz⟩, hz2⟩, hB1⟩, hB2⟩, hB3⟩ := hB
    have hri : i ∈ Region.ready md ops listed := by rw [hr]; simp
    have hrj : j ∈ Region.ready md ops listed := by rw [hr]; simp
    have hrk : k ∈ Region.ready md ops listed := by rw [hr]; simp
    refine ⟨fun h0 => (by rw [h0] at hr; cases hr), fun l hk => ?_⟩
    rw [hr] at hk
    rcases List.mem_cons.1 hk with rfl | hk
    · refine wpOp_mono (fun a' w' h' => ⟨h'.1, wpAnyL2_tri hs m _ _ a' w' (hc.set hri) (fun hne => ?_) hB1 h'.2⟩) h.1
      rw [Bool.or_eq_false_iff] at hne
      exact h'.1 (by simpa using hne.2) (hS hne.1)
    · rcases List.mem_cons.1 hk with rfl | hk
      · refine wpOp_mono (fun a' w' h' => ⟨h'.1, ?_⟩) h.2.1
        show wpAnyL2 P md ops Q S L m.len _ a' w'
        rw [hz]
        refine wpAnyL2_tri hs m' _ _ a' w' (hc.set hrj) (fun hne => ?_) hB2 h'.2
        rw [Bool.or_eq_false_iff] at hne
        exact h'.1 (by simpa using hne.2) (hS hne.1)
      · have : l = k := by simpa using hk
        subst this
        refine wpOp_mono (fun a' w' h' => ⟨h'.1, ?_⟩) h.2.2
        show wpAnyL2 P md ops Q S L m.len _ a' w'
        rw [hz2]
        refine wpAnyL2_tri hs m'' _ _ a' w' (hc.set hrk) (fun hne => ?_) hB3 h'.2
        rw [Bool.or_eq_false_iff] at hne
        exact h'.1 (by simpa using hne.2) (hS hne.1)

def triB (ops : Array Oper) (m : Mov3) (L : List Nat) : Bool := Region.noSelect ops && (ops.size == m.len) && triOk .any ops L m false (Array.replicate ops.size false)
/-- **The moves serve every order.** -/
theorem wp_region_tri {id : Nat} {a : Act} {w : World} {lo : List Oper} (S : World → Prop) (m : Mov3) (L : List Nat) (hm : P.follows .mixedOrders = true) (hB : triB lo.toArray m L = true) (hS : S w.drew)
    (h : wpTri P lo.toArray Q S L m a w.drew) : (Code.region id lo.toArray true).wp P Q a w := by
  unfold triB at hB
  simp only [Bool.and_eq_true, beq_iff_eq] at hB
  obtain ⟨⟨hs, hz⟩, hL⟩ := hB
  refine wp_region_any hm ?_
  have hcl : Closed .any lo.toArray (Array.replicate lo.toArray.size false) := fun j o _ hl => by
    rw [show (Array.replicate lo.toArray.size false).getD j false = false by simp [Array.getD_eq_getD_getElem?, Array.getElem?_replicate]; split <;> rfl] at hl; cases hl
  have := wpAny_of_L2 _ _ _ _ (wpAnyL2_tri hs m false (Array.replicate lo.toArray.size false) a w.drew hcl (fun _ => hS) hL h)
  rw [hz]
  rw [hz] at this
  exact this
theorem wpTri_pure {i : Nat} {o : Oper} {v : Value} {m : Mov3} {a : Act} {w : World} (ho : ops[i]? = some o) (hw : Region.wanted o (yielded ops a.tmps) = true) (hy : ∀ w, (execOp a.eval o).run P w = .ok (.value v) w)
    (hQ : ∀ c a w, Q (.panic c) (a.put o.dst v) w → Q (.panic c) a w) (h : wpTri P ops Q S L m (a.put o.dst v) w) : wpTri P ops Q S L (.pure i m) a w := ⟨o, v, ho, .inl ⟨hw, fun w _ => hy w⟩, hQ, h⟩
theorem wpTri_take {i : Nat} {o : Oper} {v : Value} {m : Mov3} {a : Act} {w : World} (ho : ops[i]? = some o) (hw : Region.wanted o (yielded ops a.tmps) = true) (hy : ∀ w, S w → (execOp a.eval o).run P w = .ok (.value v) w)
    (hQ : ∀ c a w, Q (.panic c) (a.put o.dst v) w → Q (.panic c) a w) (h : wpTri P ops Q S L m (a.put o.dst v) w) : wpTri P ops Q S L (.read i m) a w := ⟨o, v, ho, .inl ⟨hw, hy⟩, hQ, h⟩
/-- One that its guard bars. -/
theorem wpTri_bar {i : Nat} {o : Oper} {m : Mov3} {a : Act} {w : World} (ho : ops[i]? = some o) (hw : Region.wanted o (yielded ops a.tmps) = false)
    (hQ : ∀ c a w, Q (.panic c) (a.put o.dst undef) w → Q (.panic c) a w) (h : wpTri P ops Q S L m (a.put o.dst undef) w) : wpTri P ops Q S L (.pure i m) a w := ⟨o, undef, ho, .inr ⟨hw, rfl⟩, hQ, h⟩
theorem wpTri_barR {i : Nat} {o : Oper} {m : Mov3} {a : Act} {w : World} (ho : ops[i]? = some o) (hw : Region.wanted o (yielded ops a.tmps) = false)
    (hQ : ∀ c a w, Q (.panic c) (a.put o.dst undef) w → Q (.panic c) a w) (h : wpTri P ops Q S L m (a.put o.dst undef) w) : wpTri P ops Q S L (.read i m) a w := ⟨o, undef, ho, .inr ⟨hw, rfl⟩, hQ, h⟩
theorem wpTri_bar1 {i : Nat} {o : Oper} {m : Mov3} {a : Act} {w : World} (ho : ops[i]? = some o) (hw : Region.wanted o (yielded ops a.tmps) = false)
    (h : wpTri P ops Q S L m (a.put o.dst undef) w) : wpTri P ops Q S L (.one i m) a w := by
  show wpOp P ops Q i _ a w
  unfold wpOp
  simp only [ho, hw, Bool.false_eq_true, if_false]
  exact ⟨fun _ h => h, h⟩
theorem wpTri_do {i : Nat} {o : Oper} {m : Mov3} {a : Act} {w : World} (ho : ops[i]? = some o) (hw : Region.wanted o (yielded ops a.tmps) = true) (h : o.wp P a w (fun a' w' => (i ∉ L → S w → S w') ∧ wpTri P ops Q S L m a' w') Q) : wpTri P ops Q S L (.one i m) a w := by
  show wpOp P ops Q i _ a w
  exact wpOp_do ho hw h
theorem wpTri_two {i j : Nat} {o o' : Oper} {m m' : Mov3} {a : Act} {w : World} (ho : ops[i]? = some o) (hw : Region.wanted o (yielded ops a.tmps) = true) (ho' : ops[j]? = some o') (hw' : Region.wanted o' (yielded ops a.tmps) = true)
    (h : o.wp P a w (fun a' w' => (i ∉ L → S w → S w') ∧ wpTri P ops Q S L m a' w') Q) (h' : o'.wp P a w (fun a' w' => (j ∉ L → S w → S w') ∧ wpTri P ops Q S L m' a' w') Q) : wpTri P ops Q S L (.two i m j m') a w :=
  ⟨wpOp_do ho hw h, wpOp_do ho' hw' h'⟩
theorem wpTri_three {i j k : Nat} {o o' o'' : Oper} {m m' m'' : Mov3} {a : Act} {w : World} (ho : ops[i]? = some o) (hw : Region.wanted o (yielded ops a.tmps) = true) (ho' : ops[j]? = some o') (hw' : Region.wanted o' (yielded ops a.tmps) = true) (ho'' : ops[k]? = some o'') (hw'' : Region.wanted o'' (yielded ops a.tmps) = true)
    (h : o.wp P a w (fun a' w' => (i ∉ L → S w → S w') ∧ wpTri P ops Q S L m a' w') Q) (h' : o'.wp P a w (fun a' w' => (j ∉ L → S w → S w') ∧ wpTri P ops Q S L m' a' w') Q) (h'' : o''.wp P a w (fun a' w' => (k ∉ L → S w → S w') ∧ wpTri P ops Q S L m'' a' w') Q) : wpTri P ops Q S L (.three i m j m' k m'') a w :=
  ⟨wpOp_do ho hw h, wpOp_do ho' hw' h', wpOp_do ho'' hw'' h''⟩
end
end Go.Proofs.YthojfhdenfhjfaaDoor
end
section
namespace Go.Proofs.YthojfhdenfhjfaaDoor
open Go.RowKit Go.Lib Go.Shelf

theorem rows_edge {fs : List Face} {n : Nat} (h : n < (rowsL fs).length) : ∃ e, e ∈ edgesL fs ∧ (rowsL fs).getD n default = rowE fs e := by
  unfold rowsL at h ⊢
  rw [List.length_map] at h
  refine ⟨(edgesL fs)[n], List.getElem_mem h, ?_⟩
  rw [List.getD_eq_getElem?_getD, List.getElem?_map, List.getElem?_eq_getElem h]
  rfl
theorem wp_name {P : Program} {c : Code} {Q : Exit → Act → World → Prop} {a : Act} {w : World} (h : ∀ A, Hid (A = a) → c.wp P Q a w) : c.wp P Q a w := h a rfl
/-- The ends of an edge are laid. -/
def EndsPost (V : World) (p q : Pnt) (f : Nat → Nat → Act) (a' : Act) (w' : World) : Prop :=
  ∃ b1 b2, V.heap.size ≤ b1 ∧ V.heap.size ≤ b2 ∧ Below V.heap.size V w' ∧ w'.heap[b1]? = some (.cells #[.int .i64 p.x, .int .i64 p.y] 39 (0, 0)) ∧ w'.heap[b2]? = some (.cells #[.int .i64 q.x, .int .i64 q.y] 39 (0, 0)) ∧ a' = f b1 b2
/-- An edge and the one beside it. -/
theorem row_pair {fs : List Face} {e o : Edg} (h : OkFs fs) (he : e ∈ edgesL fs) (ho : otherE fs e = some o) : ∃ (i k j m : Nat) (kd : Int), i < fs.length ∧ k < lenF fs i ∧ j < fs.length ∧ m < lenF fs j ∧ i ≠ j ∧ 4 ≤ kd ∧ kd ≤ 9 ∧
    e = ⟨(i : Int), (k : Int), sideAt (fs.getD i default).corners k⟩ ∧ o = ⟨(j : Int), (m : Int), sideAt (fs.getD j default).corners m⟩ ∧ rowE fs e = ⟨(i : Int), (k : Int), kd, (j : Int), (m : Int)⟩ ∧ rowE fs o = ⟨(j : Int), (m : Int), kd, (i : Int), (k : Int)⟩ ∧
    sideAt (fs.getD j default).corners m = revS (sideAt (fs.getD i default).corners k) ∧ kd = kindP (fs.getD i default) (fs.getD j default) (sideAt (fs.getD i default).corners k) := by
  obtain ⟨r1, r2, r3, r4, r5, r6, r7, r8, r9⟩ := row_other h he ho
  have f1 := rowE_face fs e
  have f2 := rowE_face fs o
  have hk := kind_other h he ho
  have hr := kindP_range (fs.getD e.face.toNat default) (fs.getD o.face.toNat default) e.s
  obtain ⟨i, k, hi, hk', rfl⟩ := mem_edges.1 he
  obtain ⟨j, m, hj, hm, rfl⟩ := mem_edges.1 r9
  dsimp only at *
  simp only [Int.toNat_natCast] at hk hr
  refine ⟨i, k, j, m, (rowE fs ⟨(i : Int), (k : Int), sideAt (fs.getD i default).corners k⟩).kind, hi, hk', hj, hm, fun e => r7 (by rw [e]), r3, ?_, rfl, rfl, ?_, ?_, r8, ?_⟩
  · rw [f1.2.2, hk]; exact hr.2
  · generalize rowE fs ⟨(i : Int), (k : Int), sideAt (fs.getD i default).corners k⟩ = x at *
    cases x
    dsimp only at *
    rw [f1.1, f1.2.1, r1, r2]
  · generalize rowE fs ⟨(i : Int), (k : Int), sideAt (fs.getD i default).corners k⟩ = x at *
    generalize rowE fs ⟨(j : Int), (m : Int), sideAt (fs.getD j default).corners m⟩ = y at *
    cases y
    dsimp only at *
    rw [f2.1, f2.2.1, r4, r5, r6]
  · rw [f1.2.2, hk]
/-- The roof's box in the law. -/
structure LwX (w : World) (fs : List Face) (fa : Option Addr) (fc : Nat) (v1 : Value) (A : Option Addr) (L : List ERow) (V : World) : Prop where
  b : Below w.heap.size w V
  c : V.heap[w.heap.size]? = some (.cells #[.slice fa fs.length fc, v1] 25 (0, 0))
  r : FlatRow encRow 5 V A L
theorem LwX.later {w V V' : World} {fs : List Face} {fa : Option Addr} {fc : Nat} {v1 : Value} {A : Option Addr} {L : List ERow} (h : LwX w fs fa fc v1 A L V) (hb : Below V.heap.size V V') : LwX w fs fa fc v1 A L V' :=
  ⟨h.b.trans (hb.mono h.b.size), (hb.block _ (lt_block h.c)).trans h.c, h.r.below hb⟩
end Go.Proofs.YthojfhdenfhjfaaDoor
end
