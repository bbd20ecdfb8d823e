/-
  What lies in a block, told anew: small words. No program is named here. On which side of an edge a point lies: walked. (Printed by genR2.py.) Both ends of an edge, the lesser one first: walked. (Printed by genR3.py.) Whether two edges have more than one point in common: walked. (Printed by genR4.py.)
-/
import Derived.Test.YthojfhdenfhjfaaDoorRa02
import Derived.Test.YthojfhdenfhjfaaDoorRa03
import Derived.Test.YthojfhdenfhjfaaDoorRa04
import Derived.Maps.Keyed
import Derived.Maps.OwnSet
set_option linter.all false
set_option linter.unusedVariables false
set_option linter.unusedSimpArgs false
section
namespace Go.Proofs.YthojfhdenfhjfaaDoor
open Go.RowKit Go.Lib Go.Maps

theorem heap_new (W : World) (o : Obj) (k : Nat) (hk : k = W.heap.size) : (W.alloc o).heap[k]? = some o := by
  rw [hk]; exact (MapKept.heap_alloc W o).1
theorem heap_old (W : World) (o o' : Obj) (k : Nat) (h : W.heap[k]? = some o') : (W.alloc o).heap[k]? = some o' := by
  rw [Below.heap_alloc _ _ _ (Array.getElem?_eq_some_iff.1 h).1]; exact h
theorem cells1 {w : World} {b : Nat} {v0 : Value} {t : TypeId} (h : w.heap[b]? = some (.cells #[v0] t (0, 0))) : w.cell? ⟨b, 0, none⟩ = some v0 := by simp [World.cell?, h]
theorem cells2 {w : World} {b : Nat} {v0 v1 : Value} {t : TypeId} (h : w.heap[b]? = some (.cells #[v0, v1] t (0, 0))) : w.cell? ⟨b, 0, none⟩ = some v0 ∧ w.cell? ⟨b, 1, none⟩ = some v1 := by constructor <;> simp [World.cell?, h]
theorem cells4 {w : World} {b : Nat} {x y z v : Value} {t : TypeId} (h : w.heap[b]? = some (.cells #[x, y, z, v] t (0, 0))) : w.cell? ⟨b, 0, none⟩ = some x ∧ w.cell? ⟨b, 1, none⟩ = some y ∧ w.cell? ⟨b, 2, none⟩ = some z ∧ w.cell? ⟨b, 3, none⟩ = some v := by
  refine ⟨?_, ?_, ?_, ?_⟩ <;> simp [World.cell?, h]
theorem frozen_row {w : World} {b : Nat} {cs : Array Value} {t : TypeId} (h : w.heap[b]? = some (.cells cs t (0, 0))) (o : Nat) : w.frozen? ⟨b, o, none⟩ = false := by simp [World.frozen?, h]
theorem set_cells {w : World} {b o : Nat} {cs : Array Value} {t : TypeId} (h : w.heap[b]? = some (.cells cs t (0, 0))) (u : Value) : (w.setCell ⟨b, o, none⟩ u).heap[b]? = some (.cells (cs.setIfInBounds o u) t (0, 0)) := by
  simp only [World.setCell, Array.getElem?_modify, h]
  rfl
theorem set_size (w : World) (a : Addr) (u : Value) : (w.setCell a u).heap.size = w.heap.size := by simp [World.setCell]
theorem lit_add (g j : Nat) : (⟨g, 0, none⟩ : Addr).add j = ⟨g, j, none⟩ := by unfold Addr.add; split <;> simp_all
theorem lt_block {w : World} {b : Nat} {o : Obj} (h : w.heap[b]? = some o) : b < w.heap.size := (Array.getElem?_eq_some_iff.1 h).1

/-- An edge's variable and a point's, laid by a call. -/
structure SpX (w : World) (s : Sd) (p : Pnt) (W : World) : Prop where
  below : Below w.heap.size w W
  c0 : W.heap[w.heap.size]? = some (.cells (sdCells s) 100 (0, 0))
  c1 : W.heap[w.heap.size + 1]? = some (.cells #[.int .i64 p.x, .int .i64 p.y] 39 (0, 0))
theorem SpX.make (w : World) (s : Sd) (p : Pnt) : SpX w s p ((w.alloc (.cells (sdCells s) 100)).alloc (.cells #[.int .i64 p.x, .int .i64 p.y] 39)) :=
  ⟨((Below.refl _ w).alloc (Nat.le_refl _) _).alloc (by simp) _, heap_old _ _ _ _ (heap_new _ _ _ rfl), heap_new _ _ _ (by simp)⟩
theorem SpX.later {w W W' : World} {s : Sd} {p : Pnt} (h : SpX w s p W) (hb : Below W.heap.size W W') : SpX w s p W' :=
  ⟨h.below.trans (hb.mono h.below.size), (hb.block _ (lt_block h.c0)).trans h.c0, (hb.block _ (lt_block h.c1)).trans h.c1⟩
theorem SpX.cells {w W : World} {s : Sd} {p : Pnt} (h : SpX w s p W) : (W.cell? ⟨w.heap.size, 0, none⟩ = some (.int .i64 s.a.x) ∧ W.cell? ⟨w.heap.size, 1, none⟩ = some (.int .i64 s.a.y) ∧ W.cell? ⟨w.heap.size, 2, none⟩ = some (.int .i64 s.b.x) ∧ W.cell? ⟨w.heap.size, 3, none⟩ = some (.int .i64 s.b.y)) ∧ W.cell? ⟨w.heap.size + 1, 0, none⟩ = some (.int .i64 p.x) ∧ W.cell? ⟨w.heap.size + 1, 1, none⟩ = some (.int .i64 p.y) := ⟨cells4 h.c0, cells2 h.c1⟩
end Go.Proofs.YthojfhdenfhjfaaDoor
end
section
namespace Go.Proofs.YthojfhdenfhjfaaDoor
open Go.RowKit Go.Lib

theorem way_small {s : Sd} (ha : SmP s.a 1000000) (hb : SmP s.b 1000000) : SmP (wayS s) 4000000 := by
  obtain ⟨a, b, c, d⟩ := minus_small hb ha
  unfold SmP wayS
  omega
set_option maxHeartbeats 1000000 in
set_option maxRecDepth 100000 in
theorem of_any (s : Sd) (p : Pnt) (w : World) (ha : SmP s.a 1000000) (hb : SmP s.b 1000000) (hp : SmP p 1000000) : Calls Tryd.prog 90 #[.agg (sdCells s), pntVal p] w fun e w' => e = .returned (.int .i64 (sgn (leftS s p))) ∧ Below w.heap.size w w' := by
  obtain ⟨W0, hW0⟩ : ∃ W0, W0 = ((w.alloc (.cells (sdCells s) 100)).alloc (.cells #[.int .i64 p.x, .int .i64 p.y] 39)) := ⟨_, rfl⟩
  have hX : Hid (SpX w s p W0) := by rw [hW0]; exact SpX.make w s p
  go_enter Tryd.func90, Tryd.ntmps90
  go_upto_region 1 with fail
  unfold sdCells at hW0
  rw [← hW0]
  replace hW0 := Lib.hid hW0
  obtain ⟨wq, hwq⟩ : ∃ x, x = W0.drew := ⟨_, rfl⟩
  have hXq : Hid (SpX w s p wq) := by rw [hwq]; exact hX.out.later ((Below.refl _ _).drew)
  refine wp_region_tree (SpX w s p) (.read 0 (.pure 2 (.read 3 (.read 4 (.pure 5 (.one 1 (.one 6 (.one 7 (.one 8 (.pure 9 .done)))))))))) [] (by kernel_rfl) (by kernel_rfl) (by rw [← hwq]; exact hXq.out) ?_
  rw [← hwq]
  replace hwq := Lib.hid hwq
  refine wpTree_take (v := ?_) rfl (by rfl) ?_ (fun _ _ _ h => h) ?_
  rotate_left
  focus (intro w' hSw; obtain ⟨⟨y0, y1, y2, y3⟩, z0, z1⟩ := hSw.cells; clear hSw; (try simp only [List.getElem_toArray, List.getElem_cons_zero, List.getElem_cons_succ]); go_simp; try with_reducible rfl)
  (try simp only [List.getElem_toArray, List.getElem_cons_zero, List.getElem_cons_succ, Act.put, List.setIfInBounds_toArray, List.set_cons_zero, List.set_cons_succ])
  refine wpTree_pure (v := ?_) rfl (by rfl) ?_ (fun _ _ _ h => h) ?_
  rotate_left
  focus (intro w'; (try simp only [List.getElem_toArray, List.getElem_cons_zero, List.getElem_cons_succ]); go_simp; try with_reducible rfl)
  (try simp only [List.getElem_toArray, List.getElem_cons_zero, List.getElem_cons_succ, Act.put, List.setIfInBounds_toArray, List.set_cons_zero, List.set_cons_succ])
  refine wpTree_take (v := ?_) rfl (by rfl) ?_ (fun _ _ _ h => h) ?_
  rotate_left
  focus (intro w' hSw; obtain ⟨⟨y0, y1, y2, y3⟩, z0, z1⟩ := hSw.cells; clear hSw; (try simp only [List.getElem_toArray, List.getElem_cons_zero, List.getElem_cons_succ]); go_simp; try with_reducible rfl)
  (try simp only [List.getElem_toArray, List.getElem_cons_zero, List.getElem_cons_succ, Act.put, List.setIfInBounds_toArray, List.set_cons_zero, List.set_cons_succ])
  refine wpTree_take (v := ?_) rfl (by rfl) ?_ (fun _ _ _ h => h) ?_
  rotate_left
  focus (intro w' hSw; obtain ⟨⟨y0, y1, y2, y3⟩, z0, z1⟩ := hSw.cells; clear hSw; (try simp only [List.getElem_toArray, List.getElem_cons_zero, List.getElem_cons_succ]); go_simp; try with_reducible rfl)
  (try simp only [List.getElem_toArray, List.getElem_cons_zero, List.getElem_cons_succ, Act.put, List.setIfInBounds_toArray, List.set_cons_zero, List.set_cons_succ])
  refine wpTree_pure (v := ?_) rfl (by rfl) ?_ (fun _ _ _ h => h) ?_
  rotate_left
  focus (intro w'; (try simp only [List.getElem_toArray, List.getElem_cons_zero, List.getElem_cons_succ]); go_simp; try with_reducible rfl)
  (try simp only [List.getElem_toArray, List.getElem_cons_zero, List.getElem_cons_succ, Act.put, List.setIfInBounds_toArray, List.set_cons_zero, List.set_cons_succ])
  refine wpTree_do rfl (by rfl) ?_
  (try simp only [List.getElem_toArray, List.getElem_cons_zero, List.getElem_cons_succ])
  go_simp
  go_at_call 96
  (with_reducible refine (way_any s _ ha hb).mono ?_)
  rintro e w1 ⟨rfl, hbw1⟩
  refine ⟨fun h => h.later hbw1, ?_⟩
  (try simp only [List.getElem_toArray, List.getElem_cons_zero, List.getElem_cons_succ, Act.put, List.setIfInBounds_toArray, List.set_cons_zero, List.set_cons_succ])
  refine wpTree_do rfl (by rfl) ?_
  (try simp only [List.getElem_toArray, List.getElem_cons_zero, List.getElem_cons_succ])
  go_simp
  go_at_call 96
  (with_reducible refine (way_any ⟨s.a, p⟩ _ ha hp).mono ?_)
  rintro e w2 ⟨rfl, hbw2⟩
  refine ⟨fun h => h.later hbw2, ?_⟩
  (try simp only [List.getElem_toArray, List.getElem_cons_zero, List.getElem_cons_succ, Act.put, List.setIfInBounds_toArray, List.set_cons_zero, List.set_cons_succ])
  refine wpTree_do rfl (by rfl) ?_
  (try simp only [List.getElem_toArray, List.getElem_cons_zero, List.getElem_cons_succ])
  go_simp
  go_at_call 69
  (with_reducible refine (cross_any (wayS s) (wayS ⟨s.a, p⟩) _ (way_small ha hb) (way_small ha hp)).mono ?_)
  rintro e w3 ⟨rfl, hbw3⟩
  refine ⟨fun h => h.later hbw3, ?_⟩
  (try simp only [List.getElem_toArray, List.getElem_cons_zero, List.getElem_cons_succ, Act.put, List.setIfInBounds_toArray, List.set_cons_zero, List.set_cons_succ])
  refine wpTree_do rfl (by rfl) ?_
  (try simp only [List.getElem_toArray, List.getElem_cons_zero, List.getElem_cons_succ])
  go_simp
  go_at_call 108
  (with_reducible refine (signOf_any _ _).mono ?_)
  rintro e w4 ⟨rfl, rfl⟩
  refine ⟨fun h => h, ?_⟩
  (try simp only [List.getElem_toArray, List.getElem_cons_zero, List.getElem_cons_succ, Act.put, List.setIfInBounds_toArray, List.set_cons_zero, List.set_cons_succ])
  refine wpTree_pure (v := ?_) rfl (by rfl) ?_ (fun _ _ _ h => h) ?_
  rotate_left
  focus (intro w'; (try simp only [List.getElem_toArray, List.getElem_cons_zero, List.getElem_cons_succ]); go_simp; try with_reducible rfl)
  (try simp only [List.getElem_toArray, List.getElem_cons_zero, List.getElem_cons_succ, Act.put, List.setIfInBounds_toArray, List.set_cons_zero, List.set_cons_succ])
  unfold wpTree
  go_wp2
  go_ret
  exact ⟨rfl, (((hXq.out.later hbw1).later hbw2).later hbw3).below⟩
end Go.Proofs.YthojfhdenfhjfaaDoor
end
section
namespace Go.Proofs.YthojfhdenfhjfaaDoor
open Go.RowKit Go.Lib

theorem or_two (x y : Int) (b : Nat) (w : World) (h0 : w.cell? ⟨b, 0, none⟩ = some (.int .i64 x)) (h1 : w.cell? ⟨b, 1, none⟩ = some (.int .i64 y)) :
    Calls Tryd.prog 92 #[.slice (some ⟨b, 0, none⟩) 2 2] w fun e w' => e = .returned (.int .i64 (if x ≠ 0 then x else y)) ∧ w = w' := by
  go_enter Tryd.func92, Tryd.ntmps92
  go_wp2
  go_loop [8] (fun i => ∃ k : Nat, i = .int .i64 k ∧ k ≤ 2 ∧ Hid (1 ≤ k → x = 0) ∧ Hid (2 ≤ k → y = 0)) (fun i => 2 - (intOf i).toNat)
  case atStart => exact ⟨0, rfl, by omega, fun h => by omega, fun h => by omega⟩
  case round =>
    obtain ⟨k, rfl, hk, hx, hy⟩ := hrel
    have hk' : k = 0 ∨ k = 1 ∨ k = 2 := by omega
    rcases hk' with rfl | rfl | rfl
    · by_cases hx0 : x = 0
      · have hb : (x != 0) = false := by simpa using hx0
        go_wp2
        go_round
        case rel => exact ⟨1, rfl, by omega, fun _ => hx0, fun h => by omega⟩
        case measure => simp [intOf]
      · have hb : (x != 0) = true := by simpa using hx0
        go_wp2
        go_ret
        exact ⟨rfl, rfl⟩
    · have hx0 := hx.out (by omega)
      by_cases hy0 : y = 0
      · have hb : (y != 0) = false := by simpa using hy0
        go_wp2
        go_round
        case rel => exact ⟨2, rfl, by omega, fun _ => hx0, fun _ => hy0⟩
        case measure => simp [intOf]
      · have hb : (y != 0) = true := by simpa using hy0
        go_wp2
        go_ret
        exact ⟨rfl, rfl⟩
    · have hx0 := hx.out (by omega)
      have hy0 := hy.out (by omega)
      go_wp2
      go_ret
      exact ⟨rfl, rfl⟩
/-- An edge's variable, and the one that is handed back. -/
structure EnX (w : World) (s : Sd) (W : World) : Prop where
  below : Below w.heap.size w W
  c0 : W.heap[w.heap.size]? = some (.cells (sdCells s) 100 (0, 0))
  c1 : W.heap[w.heap.size + 1]? = some (.cells (sdCells ⟨⟨0, 0⟩, ⟨0, 0⟩⟩) 100 (0, 0))
theorem EnX.make (w : World) (s : Sd) : EnX w s ((w.alloc (.cells (sdCells s) 100)).alloc (.cells (sdCells ⟨⟨0, 0⟩, ⟨0, 0⟩⟩) 100)) :=
  ⟨((Below.refl _ w).alloc (Nat.le_refl _) _).alloc (by simp) _, heap_old _ _ _ _ (heap_new _ _ _ rfl), heap_new _ _ _ (by simp)⟩
theorem EnX.later {w W W' : World} {s : Sd} (h : EnX w s W) (hb : Below W.heap.size W W') : EnX w s W' :=
  ⟨h.below.trans (hb.mono h.below.size), (hb.block _ (lt_block h.c0)).trans h.c0, (hb.block _ (lt_block h.c1)).trans h.c1⟩
theorem ends_gtr (s : Sd) : decide (0 < if compareInt s.a.x s.b.x ≠ 0 then compareInt s.a.x s.b.x else compareInt s.a.y s.b.y) = decide (s.b.x < s.a.x ∨ (s.a.x = s.b.x ∧ s.b.y < s.a.y)) := by
  rw [Bool.eq_iff_iff]
  simp only [decide_eq_true_eq]
  unfold compareInt
  split <;> split <;> (try split) <;> (try split) <;> (try split) <;> omega
set_option maxHeartbeats 1000000 in
set_option maxRecDepth 100000 in
theorem ends_any (s : Sd) (w : World) : Calls Tryd.prog 47 #[.agg (sdCells s)] w fun e w' => e = .returned (.agg (sdCells (endsS s))) ∧ Below w.heap.size w w' := by
  obtain ⟨W0, hW0⟩ : ∃ W0, W0 = ((w.alloc (.cells (sdCells s) 100)).alloc (.cells (sdCells ⟨⟨0, 0⟩, ⟨0, 0⟩⟩) 100)) := ⟨_, rfl⟩
  have hX : Hid (EnX w s W0) := by rw [hW0]; exact EnX.make w s
  obtain ⟨ov, hov⟩ : ∃ ov, ov = if compareInt s.a.x s.b.x ≠ 0 then compareInt s.a.x s.b.x else compareInt s.a.y s.b.y := ⟨_, rfl⟩
  have hgt : Hid (decide (0 < ov) = decide (s.b.x < s.a.x ∨ (s.a.x = s.b.x ∧ s.b.y < s.a.y))) := by unfold Hid; rw [hov]; exact ends_gtr s
  have hor : Hid (∀ (b : Nat) (W : World), W.cell? ⟨b, 0, none⟩ = some (.int .i64 (compareInt s.a.x s.b.x)) → W.cell? ⟨b, 1, none⟩ = some (.int .i64 (compareInt s.a.y s.b.y)) → Calls Tryd.prog 92 #[.slice (some ⟨b, 0, none⟩) 2 2] W fun e w' => e = .returned (.int .i64 ov) ∧ W = w') := fun b W q1 q2 => hov ▸ or_two _ _ b W q1 q2
  replace hov := Lib.hid hov
  go_enter Tryd.func47, Tryd.ntmps47
  go_upto_region 1 with fail
  unfold sdCells at hW0
  dsimp only at hW0
  rw [← hW0]
  replace hW0 := Lib.hid hW0
  obtain ⟨wq, hwq⟩ : ∃ x, x = W0.drew := ⟨_, rfl⟩
  have hXq : Hid (EnX w s wq) := by rw [hwq]; exact hX.out.later ((Below.refl _ _).drew)
  refine wp_region_tree (EnX w s) (.pure 0 (.pure 1 (.read 2 (.pure 3 (.pure 4 (.read 5 (.pure 7 (.pure 8 (.read 9 (.pure 10 (.pure 11 (.read 12 (.one 6 (.one 13 (.one 14 (.one 15 (.pure 16 .done))))))))))))))))) [] (by kernel_rfl) (by kernel_rfl) (by rw [← hwq]; exact hXq.out) ?_
  rw [← hwq]
  replace hwq := Lib.hid hwq
  refine wpTree_pure (v := ?_) rfl (by rfl) ?_ (fun _ _ _ h => h) ?_
  rotate_left
  focus (intro w'; (try simp only [List.getElem_toArray, List.getElem_cons_zero, List.getElem_cons_succ]); go_simp; try with_reducible rfl)
  (try simp only [List.getElem_toArray, List.getElem_cons_zero, List.getElem_cons_succ, Act.put, List.setIfInBounds_toArray, List.set_cons_zero, List.set_cons_succ])
  refine wpTree_pure (v := ?_) rfl (by rfl) ?_ (fun _ _ _ h => h) ?_
  rotate_left
  focus (intro w'; (try simp only [List.getElem_toArray, List.getElem_cons_zero, List.getElem_cons_succ]); go_simp; try with_reducible rfl)
  (try simp only [List.getElem_toArray, List.getElem_cons_zero, List.getElem_cons_succ, Act.put, List.setIfInBounds_toArray, List.set_cons_zero, List.set_cons_succ])
  refine wpTree_take (v := ?_) rfl (by rfl) ?_ (fun _ _ _ h => h) ?_
  rotate_left
  focus (intro w' hSw; obtain ⟨y0, y1, y2, y3⟩ := cells4 hSw.c0; clear hSw; (try simp only [List.getElem_toArray, List.getElem_cons_zero, List.getElem_cons_succ]); go_simp; try with_reducible rfl)
  (try simp only [List.getElem_toArray, List.getElem_cons_zero, List.getElem_cons_succ, Act.put, List.setIfInBounds_toArray, List.set_cons_zero, List.set_cons_succ])
  refine wpTree_pure (v := ?_) rfl (by rfl) ?_ (fun _ _ _ h => h) ?_
  rotate_left
  focus (intro w'; (try simp only [List.getElem_toArray, List.getElem_cons_zero, List.getElem_cons_succ]); go_simp; try with_reducible rfl)
  (try simp only [List.getElem_toArray, List.getElem_cons_zero, List.getElem_cons_succ, Act.put, List.setIfInBounds_toArray, List.set_cons_zero, List.set_cons_succ])
  refine wpTree_pure (v := ?_) rfl (by rfl) ?_ (fun _ _ _ h => h) ?_
  rotate_left
  focus (intro w'; (try simp only [List.getElem_toArray, List.getElem_cons_zero, List.getElem_cons_succ]); go_simp; try with_reducible rfl)
  (try simp only [List.getElem_toArray, List.getElem_cons_zero, List.getElem_cons_succ, Act.put, List.setIfInBounds_toArray, List.set_cons_zero, List.set_cons_succ])
  refine wpTree_take (v := ?_) rfl (by rfl) ?_ (fun _ _ _ h => h) ?_
  rotate_left
  focus (intro w' hSw; obtain ⟨y0, y1, y2, y3⟩ := cells4 hSw.c0; clear hSw; (try simp only [List.getElem_toArray, List.getElem_cons_zero, List.getElem_cons_succ]); go_simp; try with_reducible rfl)
  (try simp only [List.getElem_toArray, List.getElem_cons_zero, List.getElem_cons_succ, Act.put, List.setIfInBounds_toArray, List.set_cons_zero, List.set_cons_succ])
  refine wpTree_pure (v := ?_) rfl (by rfl) ?_ (fun _ _ _ h => h) ?_
  rotate_left
  focus (intro w'; (try simp only [List.getElem_toArray, List.getElem_cons_zero, List.getElem_cons_succ]); go_simp; try with_reducible rfl)
  (try simp only [List.getElem_toArray, List.getElem_cons_zero, List.getElem_cons_succ, Act.put, List.setIfInBounds_toArray, List.set_cons_zero, List.set_cons_succ])
  refine wpTree_pure (v := ?_) rfl (by rfl) ?_ (fun _ _ _ h => h) ?_
  rotate_left
  focus (intro w'; (try simp only [List.getElem_toArray, List.getElem_cons_zero, List.getElem_cons_succ]); go_simp; try with_reducible rfl)
  (try simp only [List.getElem_toArray, List.getElem_cons_zero, List.getElem_cons_succ, Act.put, List.setIfInBounds_toArray, List.set_cons_zero, List.set_cons_succ])
  refine wpTree_take (v := ?_) rfl (by rfl) ?_ (fun _ _ _ h => h) ?_
  rotate_left
  focus (intro w' hSw; obtain ⟨y0, y1, y2, y3⟩ := cells4 hSw.c0; clear hSw; (try simp only [List.getElem_toArray, List.getElem_cons_zero, List.getElem_cons_succ]); go_simp; try with_reducible rfl)
  (try simp only [List.getElem_toArray, List.getElem_cons_zero, List.getElem_cons_succ, Act.put, List.setIfInBounds_toArray, List.set_cons_zero, List.set_cons_succ])
  refine wpTree_pure (v := ?_) rfl (by rfl) ?_ (fun _ _ _ h => h) ?_
  rotate_left
  focus (intro w'; (try simp only [List.getElem_toArray, List.getElem_cons_zero, List.getElem_cons_succ]); go_simp; try with_reducible rfl)
  (try simp only [List.getElem_toArray, List.getElem_cons_zero, List.getElem_cons_succ, Act.put, List.setIfInBounds_toArray, List.set_cons_zero, List.set_cons_succ])
  refine wpTree_pure (v := ?_) rfl (by rfl) ?_ (fun _ _ _ h => h) ?_
  rotate_left
  focus (intro w'; (try simp only [List.getElem_toArray, List.getElem_cons_zero, List.getElem_cons_succ]); go_simp; try with_reducible rfl)
  (try simp only [List.getElem_toArray, List.getElem_cons_zero, List.getElem_cons_succ, Act.put, List.setIfInBounds_toArray, List.set_cons_zero, List.set_cons_succ])
  refine wpTree_take (v := ?_) rfl (by rfl) ?_ (fun _ _ _ h => h) ?_
  rotate_left
  focus (intro w' hSw; obtain ⟨y0, y1, y2, y3⟩ := cells4 hSw.c0; clear hSw; (try simp only [List.getElem_toArray, List.getElem_cons_zero, List.getElem_cons_succ]); go_simp; try with_reducible rfl)
  (try simp only [List.getElem_toArray, List.getElem_cons_zero, List.getElem_cons_succ, Act.put, List.setIfInBounds_toArray, List.set_cons_zero, List.set_cons_succ])
  refine wpTree_do rfl (by rfl) ?_
  (try simp only [List.getElem_toArray, List.getElem_cons_zero, List.getElem_cons_succ])
  go_simp
  go_at_call 93
  (with_reducible refine (Tryd.cmp_Compare_int s.a.x s.b.x _).mono ?_)
  rintro e w1 ⟨rfl, rfl⟩
  refine ⟨fun h => h, ?_⟩
  (try simp only [List.getElem_toArray, List.getElem_cons_zero, List.getElem_cons_succ, Act.put, List.setIfInBounds_toArray, List.set_cons_zero, List.set_cons_succ])
  refine wpTree_do rfl (by rfl) ?_
  (try simp only [List.getElem_toArray, List.getElem_cons_zero, List.getElem_cons_succ])
  go_simp
  go_at_call 93
  (with_reducible refine (Tryd.cmp_Compare_int s.a.y s.b.y _).mono ?_)
  rintro e w1 ⟨rfl, rfl⟩
  refine ⟨fun h => h, ?_⟩
  (try simp only [List.getElem_toArray, List.getElem_cons_zero, List.getElem_cons_succ, Act.put, List.setIfInBounds_toArray, List.set_cons_zero, List.set_cons_succ])
  refine wpTree_do rfl (by rfl) ?_
  (try simp only [List.getElem_toArray, List.getElem_cons_zero, List.getElem_cons_succ])
  go_simp
  refine ⟨fun h => h.later ((Below.refl _ _).alloc (Nat.le_refl _) _), ?_⟩
  (try simp only [List.getElem_toArray, List.getElem_cons_zero, List.getElem_cons_succ, Act.put, List.setIfInBounds_toArray, List.set_cons_zero, List.set_cons_succ])
  refine wpTree_do rfl (by rfl) ?_
  (try simp only [List.getElem_toArray, List.getElem_cons_zero, List.getElem_cons_succ])
  go_simp
  go_at_call 92
  (with_reducible refine (hor.out _ _ (cells2 (heap_new _ _ _ rfl)).1 (cells2 (heap_new _ _ _ rfl)).2).mono ?_)
  rintro e w1 ⟨rfl, rfl⟩
  refine ⟨fun h => h, ?_⟩
  (try simp only [List.getElem_toArray, List.getElem_cons_zero, List.getElem_cons_succ, Act.put, List.setIfInBounds_toArray, List.set_cons_zero, List.set_cons_succ])
  refine wpTree_pure (v := ?_) rfl (by rfl) ?_ (fun _ _ _ h => h) ?_
  rotate_left
  focus (intro w'; (try simp only [List.getElem_toArray, List.getElem_cons_zero, List.getElem_cons_succ]); go_simp; try with_reducible rfl)
  (try simp only [List.getElem_toArray, List.getElem_cons_zero, List.getElem_cons_succ, Act.put, List.setIfInBounds_toArray, List.set_cons_zero, List.set_cons_succ])
  unfold wpTree
  obtain ⟨wf, hwf⟩ : ∃ x, x = w1.alloc (.cells #[.int .i64 (compareInt s.a.x s.b.x), .int .i64 (compareInt s.a.y s.b.y)] 3) := ⟨_, rfl⟩
  rw [← hwf]
  have hXf : EnX w s wf := by rw [hwf]; exact hXq.out.later ((Below.refl _ _).alloc (Nat.le_refl _) _)
  replace hwf := Lib.hid hwf
  clear hXq hX
  obtain ⟨y0, y1, y2, y3⟩ := cells4 hXf.c0
  obtain ⟨z0, z1, z2, z3⟩ := cells4 hXf.c1
  have f0 := frozen_row hXf.c1 0
  have f1 := frozen_row hXf.c1 1
  have f2 := frozen_row hXf.c1 2
  have f3 := frozen_row hXf.c1 3
  have hres : ∀ v0 v1 v2 v3 : Value, ((((wf.setCell ⟨w.heap.size + 1, 0, none⟩ v0).setCell ⟨w.heap.size + 1, 1, none⟩ v1).setCell ⟨w.heap.size + 1, 2, none⟩ v2).setCell ⟨w.heap.size + 1, 3, none⟩ v3).heap[w.heap.size + 1]? = some (.cells #[v0, v1, v2, v3] 100 (0, 0)) := fun v0 v1 v2 v3 => set_cells (set_cells (set_cells (set_cells hXf.c1 v0) v1) v2) v3
  have hbl : ∀ v0 v1 v2 v3 : Value, Below w.heap.size w ((((wf.setCell ⟨w.heap.size + 1, 0, none⟩ v0).setCell ⟨w.heap.size + 1, 1, none⟩ v1).setCell ⟨w.heap.size + 1, 2, none⟩ v2).setCell ⟨w.heap.size + 1, 3, none⟩ v3) := fun v0 v1 v2 v3 => (((hXf.below.setCell (p := ⟨w.heap.size + 1, 0, none⟩) (by simp) _).setCell (p := ⟨w.heap.size + 1, 1, none⟩) (by simp) _).setCell (p := ⟨w.heap.size + 1, 2, none⟩) (by simp) _).setCell (p := ⟨w.heap.size + 1, 3, none⟩) (by simp) _
  replace hres := Lib.hid hres
  replace hbl := Lib.hid hbl
  replace hXf := Lib.hid hXf
  by_cases hq : s.b.x < s.a.x ∨ (s.a.x = s.b.x ∧ s.b.y < s.a.y)
  · have hb : 0 < ov := by have h1 := hgt.out; rw [decide_eq_true hq] at h1; exact of_decide_eq_true h1
    have hE : Hid (endsS s = ⟨s.b, s.a⟩) := if_pos hq
    replace hq := Lib.hid hq
    go_wp2
    have hz := hres.out (.int .i64 s.b.x) (.int .i64 s.b.y) (.int .i64 s.a.x) (.int .i64 s.a.y)
    have hzb := hbl.out (.int .i64 s.b.x) (.int .i64 s.b.y) (.int .i64 s.a.x) (.int .i64 s.a.y)
    obtain ⟨wz, hwz⟩ : ∃ x, x = ((((wf.setCell ⟨w.heap.size + 1, 0, none⟩ (.int .i64 s.b.x)).setCell ⟨w.heap.size + 1, 1, none⟩ (.int .i64 s.b.y)).setCell ⟨w.heap.size + 1, 2, none⟩ (.int .i64 s.a.x)).setCell ⟨w.heap.size + 1, 3, none⟩ (.int .i64 s.a.y)) := ⟨_, rfl⟩
    rw [← hwz] at hz hzb ⊢
    obtain ⟨r0, r1, r2, r3⟩ := cells4 hz
    refine bodyPost_ret (v := .agg (sdCells ⟨s.b, s.a⟩)) (by simp [results, Tryd.results47, go_sem, r0, r1, r2, r3]) rfl ⟨by rw [hE.out], hzb⟩
  · have hb : ¬ 0 < ov := by have h1 := hgt.out; rw [decide_eq_false hq] at h1; exact of_decide_eq_false h1
    have hE : Hid (endsS s = s) := if_neg hq
    replace hq := Lib.hid hq
    go_wp2
    have hz := hres.out (.int .i64 s.a.x) (.int .i64 s.a.y) (.int .i64 s.b.x) (.int .i64 s.b.y)
    have hzb := hbl.out (.int .i64 s.a.x) (.int .i64 s.a.y) (.int .i64 s.b.x) (.int .i64 s.b.y)
    obtain ⟨wz, hwz⟩ : ∃ x, x = ((((wf.setCell ⟨w.heap.size + 1, 0, none⟩ (.int .i64 s.a.x)).setCell ⟨w.heap.size + 1, 1, none⟩ (.int .i64 s.a.y)).setCell ⟨w.heap.size + 1, 2, none⟩ (.int .i64 s.b.x)).setCell ⟨w.heap.size + 1, 3, none⟩ (.int .i64 s.b.y)) := ⟨_, rfl⟩
    rw [← hwz] at hz hzb ⊢
    obtain ⟨r0, r1, r2, r3⟩ := cells4 hz
    refine bodyPost_ret (v := .agg (sdCells s)) (by simp [results, Tryd.results47, go_sem, r0, r1, r2, r3]) rfl ⟨by rw [hE.out], hzb⟩
end Go.Proofs.YthojfhdenfhjfaaDoor
end
section
namespace Go.Proofs.YthojfhdenfhjfaaDoor
open Go.RowKit Go.Lib

/-- Two edges' variables. -/
structure TwX (w : World) (s t : Sd) (W : World) : Prop where
  below : Below w.heap.size w W
  c0 : W.heap[w.heap.size]? = some (.cells (sdCells s) 100 (0, 0))
  c1 : W.heap[w.heap.size + 1]? = some (.cells (sdCells t) 100 (0, 0))
theorem TwX.make (w : World) (s t : Sd) : TwX w s t ((w.alloc (.cells (sdCells s) 100)).alloc (.cells (sdCells t) 100)) :=
  ⟨((Below.refl _ w).alloc (Nat.le_refl _) _).alloc (by simp) _, heap_old _ _ _ _ (heap_new _ _ _ rfl), heap_new _ _ _ (by simp)⟩
theorem TwX.later {w W W' : World} {s t : Sd} (h : TwX w s t W) (hb : Below W.heap.size W W') : TwX w s t W' :=
  ⟨h.below.trans (hb.mono h.below.size), (hb.block _ (lt_block h.c0)).trans h.c0, (hb.block _ (lt_block h.c1)).trans h.c1⟩
theorem sgn_flat (n : Int) : (sgn n == 0) = decide (n = 0) := by
  rw [Bool.eq_iff_iff]; simp only [beq_iff_eq, decide_eq_true_eq]; unfold sgn; split <;> (try split) <;> omega
set_option maxHeartbeats 2000000 in
set_option maxRecDepth 100000 in
theorem share_any (s t : Sd) (w : World) (ha : SmP s.a 1000000) (hb : SmP s.b 1000000) (hc : SmP t.a 1000000) (hd : SmP t.b 1000000) : Calls Tryd.prog 48 #[.agg (sdCells s), .agg (sdCells t)] w fun e w' => e = .returned (.bool (shareB s t)) ∧ Below w.heap.size w w' := by
  obtain ⟨W0, hW0⟩ : ∃ W0, W0 = ((w.alloc (.cells (sdCells s) 100)).alloc (.cells (sdCells t) 100)) := ⟨_, rfl⟩
  have hX : Hid (TwX w s t W0) := by rw [hW0]; exact TwX.make w s t
  go_enter Tryd.func48, Tryd.ntmps48
  go_upto_region 1 with fail
  unfold sdCells at hW0
  rw [← hW0]
  replace hW0 := Lib.hid hW0
  obtain ⟨y0, y1, y2, y3⟩ := cells4 hX.out.c0
  obtain ⟨z0, z1, z2, z3⟩ := cells4 hX.out.c1
  have e1 := sgn_flat (leftS s t.a)
  have e2 := sgn_flat (leftS s t.b)
  obtain ⟨n1, hn1⟩ : ∃ n, n = sgn (leftS s t.a) := ⟨_, rfl⟩
  obtain ⟨n2, hn2⟩ : ∃ n, n = sgn (leftS s t.b) := ⟨_, rfl⟩
  have c1 : Hid (∀ W, Calls Tryd.prog 90 #[.agg (sdCells s), pntVal t.a] W fun e w' => e = .returned (.int .i64 n1) ∧ Below W.heap.size W w') := fun W => hn1 ▸ of_any s t.a W ha hb hc
  have c2 : Hid (∀ W, Calls Tryd.prog 90 #[.agg (sdCells s), pntVal t.b] W fun e w' => e = .returned (.int .i64 n2) ∧ Below W.heap.size W w') := fun W => hn2 ▸ of_any s t.b W ha hb hd
  rw [← hn1] at e1
  rw [← hn2] at e2
  replace hn1 := Lib.hid hn1
  replace hn2 := Lib.hid hn2
  by_cases q1 : leftS s t.a = 0
  rotate_left
  · have hq1 : (n1 == 0) = false := by rw [e1]; exact decide_eq_false q1
    have hres : Hid (shareB s t = false) := by unfold Hid shareB; rw [decide_eq_false q1]; rfl
    replace q1 := Lib.hid q1
    clear e1 e2
    go_wp2_with (first | (go_at_call 90; (with_reducible refine (c1.out _).mono ?_); rintro e w1 ⟨rfl, hb1⟩) | (go_at_call 94; (with_reducible refine (flat_any _ _).mono ?_); rintro e w2 ⟨rfl, rfl⟩; rw [hq1]))
    go_ret
    exact ⟨by rw [hres.out]; rfl, (hX.out.later hb1).below⟩
  have hq1 : (n1 == 0) = true := by rw [e1]; exact decide_eq_true q1
  by_cases q2 : leftS s t.b = 0
  rotate_left
  · have hq2 : (n2 == 0) = false := by rw [e2]; exact decide_eq_false q2
    have hres : Hid (shareB s t = false) := by unfold Hid shareB; rw [decide_eq_false q2, Bool.and_false]; rfl
    replace q1 := Lib.hid q1
    replace q2 := Lib.hid q2
    clear e1 e2
    go_wp2_with (first | (go_at_call 90; first | ((with_reducible refine (c2.out w1).mono ?_); rintro e w2 ⟨rfl, hb2⟩) | ((with_reducible refine (c1.out _).mono ?_); rintro e w1 ⟨rfl, hb1⟩; have hX1 := Lib.hid (hX.out.later hb1); obtain ⟨y0, y1, y2, y3⟩ := cells4 hX1.out.c0; obtain ⟨z0, z1, z2, z3⟩ := cells4 hX1.out.c1)) | (go_at_call 94; (with_reducible refine (flat_any _ _).mono ?_); rintro e w3 ⟨rfl, rfl⟩; first | rw [hq1] | rw [hq2]))
    go_ret
    exact ⟨by rw [hres.out]; rfl, (hX1.out.later hb2).below⟩
  have hq2 : (n2 == 0) = true := by rw [e2]; exact decide_eq_true q2
  replace q1 := Lib.hid q1
  replace q2 := Lib.hid q2
  clear e1 e2
  go_upto_region 3 with (first | (go_at_call 90; first | ((with_reducible refine (c2.out w1).mono ?_); rintro e w2 ⟨rfl, hb2⟩; have hX2 := Lib.hid (hX1.out.later hb2)) | ((with_reducible refine (c1.out _).mono ?_); rintro e w1 ⟨rfl, hb1⟩; have hX1 := Lib.hid (hX.out.later hb1); obtain ⟨y0, y1, y2, y3⟩ := cells4 hX1.out.c0; obtain ⟨z0, z1, z2, z3⟩ := cells4 hX1.out.c1)) | (go_at_call 94; (with_reducible refine (flat_any _ _).mono ?_); rintro e w3 ⟨rfl, rfl⟩; first | rw [hq1] | rw [hq2]))
  clear y0 y1 y2 y3 z0 z1 z2 z3
  obtain ⟨wq, hwq⟩ : ∃ x, x = w2.drew := ⟨_, rfl⟩
  have hXq : Hid (TwX w s t wq) := by rw [hwq]; exact hX2.out.later ((Below.refl _ _).drew)
  refine wp_region_tree (TwX w s t) (.read 0 (.pure 2 (.read 3 (.pure 4 (.read 5 (.pure 6 (.read 9 (.pure 11 (.read 12 (.pure 13 (.read 14 (.pure 15 (.one 1 (.one 7 (.one 8 (.one 10 (.one 16 (.one 17 (.pure 18 (.pure 19 .done)))))))))))))))))))) [] (by kernel_rfl) (by kernel_rfl) (by rw [← hwq]; exact hXq.out) ?_
  rw [← hwq]
  replace hwq := Lib.hid hwq
  refine wpTree_take (v := ?_) rfl (by rfl) ?_ (fun _ _ _ h => h) ?_
  rotate_left
  focus (intro w' hSw; obtain ⟨y0, y1, y2, y3⟩ := cells4 hSw.c0; obtain ⟨z0, z1, z2, z3⟩ := cells4 hSw.c1; clear hSw; (try simp only [List.getElem_toArray, List.getElem_cons_zero, List.getElem_cons_succ]); go_simp; try with_reducible rfl)
  (try simp only [List.getElem_toArray, List.getElem_cons_zero, List.getElem_cons_succ, Act.put, List.setIfInBounds_toArray, List.set_cons_zero, List.set_cons_succ])
  refine wpTree_pure (v := ?_) rfl (by rfl) ?_ (fun _ _ _ h => h) ?_
  rotate_left
  focus (intro w'; (try simp only [List.getElem_toArray, List.getElem_cons_zero, List.getElem_cons_succ]); go_simp; try with_reducible rfl)
  (try simp only [List.getElem_toArray, List.getElem_cons_zero, List.getElem_cons_succ, Act.put, List.setIfInBounds_toArray, List.set_cons_zero, List.set_cons_succ])
  refine wpTree_take (v := ?_) rfl (by rfl) ?_ (fun _ _ _ h => h) ?_
  rotate_left
  focus (intro w' hSw; obtain ⟨y0, y1, y2, y3⟩ := cells4 hSw.c0; obtain ⟨z0, z1, z2, z3⟩ := cells4 hSw.c1; clear hSw; (try simp only [List.getElem_toArray, List.getElem_cons_zero, List.getElem_cons_succ]); go_simp; try with_reducible rfl)
  (try simp only [List.getElem_toArray, List.getElem_cons_zero, List.getElem_cons_succ, Act.put, List.setIfInBounds_toArray, List.set_cons_zero, List.set_cons_succ])
  refine wpTree_pure (v := ?_) rfl (by rfl) ?_ (fun _ _ _ h => h) ?_
  rotate_left
  focus (intro w'; (try simp only [List.getElem_toArray, List.getElem_cons_zero, List.getElem_cons_succ]); go_simp; try with_reducible rfl)
  (try simp only [List.getElem_toArray, List.getElem_cons_zero, List.getElem_cons_succ, Act.put, List.setIfInBounds_toArray, List.set_cons_zero, List.set_cons_succ])
  refine wpTree_take (v := ?_) rfl (by rfl) ?_ (fun _ _ _ h => h) ?_
  rotate_left
  focus (intro w' hSw; obtain ⟨y0, y1, y2, y3⟩ := cells4 hSw.c0; obtain ⟨z0, z1, z2, z3⟩ := cells4 hSw.c1; clear hSw; (try simp only [List.getElem_toArray, List.getElem_cons_zero, List.getElem_cons_succ]); go_simp; try with_reducible rfl)
  (try simp only [List.getElem_toArray, List.getElem_cons_zero, List.getElem_cons_succ, Act.put, List.setIfInBounds_toArray, List.set_cons_zero, List.set_cons_succ])
  refine wpTree_pure (v := ?_) rfl (by rfl) ?_ (fun _ _ _ h => h) ?_
  rotate_left
  focus (intro w'; (try simp only [List.getElem_toArray, List.getElem_cons_zero, List.getElem_cons_succ]); go_simp; try with_reducible rfl)
  (try simp only [List.getElem_toArray, List.getElem_cons_zero, List.getElem_cons_succ, Act.put, List.setIfInBounds_toArray, List.set_cons_zero, List.set_cons_succ])
  refine wpTree_take (v := ?_) rfl (by rfl) ?_ (fun _ _ _ h => h) ?_
  rotate_left
  focus (intro w' hSw; obtain ⟨y0, y1, y2, y3⟩ := cells4 hSw.c0; obtain ⟨z0, z1, z2, z3⟩ := cells4 hSw.c1; clear hSw; (try simp only [List.getElem_toArray, List.getElem_cons_zero, List.getElem_cons_succ]); go_simp; try with_reducible rfl)
  (try simp only [List.getElem_toArray, List.getElem_cons_zero, List.getElem_cons_succ, Act.put, List.setIfInBounds_toArray, List.set_cons_zero, List.set_cons_succ])
  refine wpTree_pure (v := ?_) rfl (by rfl) ?_ (fun _ _ _ h => h) ?_
  rotate_left
  focus (intro w'; (try simp only [List.getElem_toArray, List.getElem_cons_zero, List.getElem_cons_succ]); go_simp; try with_reducible rfl)
  (try simp only [List.getElem_toArray, List.getElem_cons_zero, List.getElem_cons_succ, Act.put, List.setIfInBounds_toArray, List.set_cons_zero, List.set_cons_succ])
  refine wpTree_take (v := ?_) rfl (by rfl) ?_ (fun _ _ _ h => h) ?_
  rotate_left
  focus (intro w' hSw; obtain ⟨y0, y1, y2, y3⟩ := cells4 hSw.c0; obtain ⟨z0, z1, z2, z3⟩ := cells4 hSw.c1; clear hSw; (try simp only [List.getElem_toArray, List.getElem_cons_zero, List.getElem_cons_succ]); go_simp; try with_reducible rfl)
  (try simp only [List.getElem_toArray, List.getElem_cons_zero, List.getElem_cons_succ, Act.put, List.setIfInBounds_toArray, List.set_cons_zero, List.set_cons_succ])
  refine wpTree_pure (v := ?_) rfl (by rfl) ?_ (fun _ _ _ h => h) ?_
  rotate_left
  focus (intro w'; (try simp only [List.getElem_toArray, List.getElem_cons_zero, List.getElem_cons_succ]); go_simp; try with_reducible rfl)
  (try simp only [List.getElem_toArray, List.getElem_cons_zero, List.getElem_cons_succ, Act.put, List.setIfInBounds_toArray, List.set_cons_zero, List.set_cons_succ])
  refine wpTree_take (v := ?_) rfl (by rfl) ?_ (fun _ _ _ h => h) ?_
  rotate_left
  focus (intro w' hSw; obtain ⟨y0, y1, y2, y3⟩ := cells4 hSw.c0; obtain ⟨z0, z1, z2, z3⟩ := cells4 hSw.c1; clear hSw; (try simp only [List.getElem_toArray, List.getElem_cons_zero, List.getElem_cons_succ]); go_simp; try with_reducible rfl)
  (try simp only [List.getElem_toArray, List.getElem_cons_zero, List.getElem_cons_succ, Act.put, List.setIfInBounds_toArray, List.set_cons_zero, List.set_cons_succ])
  refine wpTree_pure (v := ?_) rfl (by rfl) ?_ (fun _ _ _ h => h) ?_
  rotate_left
  focus (intro w'; (try simp only [List.getElem_toArray, List.getElem_cons_zero, List.getElem_cons_succ]); go_simp; try with_reducible rfl)
  (try simp only [List.getElem_toArray, List.getElem_cons_zero, List.getElem_cons_succ, Act.put, List.setIfInBounds_toArray, List.set_cons_zero, List.set_cons_succ])
  refine wpTree_do rfl (by rfl) ?_
  (try simp only [List.getElem_toArray, List.getElem_cons_zero, List.getElem_cons_succ])
  go_simp
  go_at_call 96
  (with_reducible refine (way_any s _ ha hb).mono ?_)
  rintro e v1 ⟨rfl, hbv1⟩
  refine ⟨fun h => h.later hbv1, ?_⟩
  (try simp only [List.getElem_toArray, List.getElem_cons_zero, List.getElem_cons_succ, Act.put, List.setIfInBounds_toArray, List.set_cons_zero, List.set_cons_succ])
  refine wpTree_do rfl (by rfl) ?_
  (try simp only [List.getElem_toArray, List.getElem_cons_zero, List.getElem_cons_succ])
  go_simp
  go_at_call 96
  (with_reducible refine (way_any ⟨s.a, t.a⟩ _ ha hc).mono ?_)
  rintro e v2 ⟨rfl, hbv2⟩
  refine ⟨fun h => h.later hbv2, ?_⟩
  (try simp only [List.getElem_toArray, List.getElem_cons_zero, List.getElem_cons_succ, Act.put, List.setIfInBounds_toArray, List.set_cons_zero, List.set_cons_succ])
  refine wpTree_do rfl (by rfl) ?_
  (try simp only [List.getElem_toArray, List.getElem_cons_zero, List.getElem_cons_succ])
  go_simp
  go_at_call 95
  (with_reducible refine (dot_any (wayS s) (wayS ⟨s.a, t.a⟩) _ (way_small ha hb) (way_small ha hc)).mono ?_)
  rintro e v3 ⟨rfl, hbv3⟩
  refine ⟨fun h => h.later hbv3, ?_⟩
  (try simp only [List.getElem_toArray, List.getElem_cons_zero, List.getElem_cons_succ, Act.put, List.setIfInBounds_toArray, List.set_cons_zero, List.set_cons_succ])
  refine wpTree_do rfl (by rfl) ?_
  (try simp only [List.getElem_toArray, List.getElem_cons_zero, List.getElem_cons_succ])
  go_simp
  go_at_call 96
  (with_reducible refine (way_any s _ ha hb).mono ?_)
  rintro e v4 ⟨rfl, hbv4⟩
  refine ⟨fun h => h.later hbv4, ?_⟩
  (try simp only [List.getElem_toArray, List.getElem_cons_zero, List.getElem_cons_succ, Act.put, List.setIfInBounds_toArray, List.set_cons_zero, List.set_cons_succ])
  refine wpTree_do rfl (by rfl) ?_
  (try simp only [List.getElem_toArray, List.getElem_cons_zero, List.getElem_cons_succ])
  go_simp
  go_at_call 96
  (with_reducible refine (way_any ⟨s.a, t.b⟩ _ ha hd).mono ?_)
  rintro e v5 ⟨rfl, hbv5⟩
  refine ⟨fun h => h.later hbv5, ?_⟩
  (try simp only [List.getElem_toArray, List.getElem_cons_zero, List.getElem_cons_succ, Act.put, List.setIfInBounds_toArray, List.set_cons_zero, List.set_cons_succ])
  refine wpTree_do rfl (by rfl) ?_
  (try simp only [List.getElem_toArray, List.getElem_cons_zero, List.getElem_cons_succ])
  go_simp
  go_at_call 95
  (with_reducible refine (dot_any (wayS s) (wayS ⟨s.a, t.b⟩) _ (way_small ha hb) (way_small ha hd)).mono ?_)
  rintro e v6 ⟨rfl, hbv6⟩
  refine ⟨fun h => h.later hbv6, ?_⟩
  (try simp only [List.getElem_toArray, List.getElem_cons_zero, List.getElem_cons_succ, Act.put, List.setIfInBounds_toArray, List.set_cons_zero, List.set_cons_succ])
  refine wpTree_pure (v := ?_) rfl (by rfl) ?_ (fun _ _ _ h => h) ?_
  rotate_left
  focus (intro w'; (try simp only [List.getElem_toArray, List.getElem_cons_zero, List.getElem_cons_succ]); go_simp; try with_reducible rfl)
  (try simp only [List.getElem_toArray, List.getElem_cons_zero, List.getElem_cons_succ, Act.put, List.setIfInBounds_toArray, List.set_cons_zero, List.set_cons_succ])
  refine wpTree_pure (v := ?_) rfl (by rfl) ?_ (fun _ _ _ h => h) ?_
  rotate_left
  focus (intro w'; (try simp only [List.getElem_toArray, List.getElem_cons_zero, List.getElem_cons_succ]); go_simp; try with_reducible rfl)
  (try simp only [List.getElem_toArray, List.getElem_cons_zero, List.getElem_cons_succ, Act.put, List.setIfInBounds_toArray, List.set_cons_zero, List.set_cons_succ])
  unfold wpTree
  have hX6 := Lib.hid ((((((hXq.out.later hbv1).later hbv2).later hbv3).later hbv4).later hbv5).later hbv6)
  go_upto_region 4 with fail
  obtain ⟨wp, hwp⟩ : ∃ x, x = v6.drew := ⟨_, rfl⟩
  have hXp : Hid (TwX w s t wp) := by rw [hwp]; exact hX6.out.later ((Below.refl _ _).drew)
  refine wp_region_tree (TwX w s t) (.pure 0 (.pure 1 (.pure 2 (.pure 3 (.read 4 (.read 6 (.pure 9 (.pure 10 (.pure 11 (.one 5 (.one 7 (.one 8 (.pure 12 (.pure 13 (.pure 14 .done))))))))))))))) [] (by kernel_rfl) (by kernel_rfl) (by rw [← hwp]; exact hXp.out) ?_
  rw [← hwp]
  replace hwp := Lib.hid hwp
  refine wpTree_pure (v := ?_) rfl (by rfl) ?_ (fun _ _ _ h => h) ?_
  rotate_left
  focus (intro w'; (try simp only [List.getElem_toArray, List.getElem_cons_zero, List.getElem_cons_succ]); go_simp; try with_reducible rfl)
  (try simp only [List.getElem_toArray, List.getElem_cons_zero, List.getElem_cons_succ, Act.put, List.setIfInBounds_toArray, List.set_cons_zero, List.set_cons_succ])
  refine wpTree_pure (v := ?_) rfl (by rfl) ?_ (fun _ _ _ h => h) ?_
  rotate_left
  focus (intro w'; (try simp only [List.getElem_toArray, List.getElem_cons_zero, List.getElem_cons_succ]); go_simp; try with_reducible rfl)
  (try simp only [List.getElem_toArray, List.getElem_cons_zero, List.getElem_cons_succ, Act.put, List.setIfInBounds_toArray, List.set_cons_zero, List.set_cons_succ])
  refine wpTree_pure (v := ?_) rfl (by rfl) ?_ (fun _ _ _ h => h) ?_
  rotate_left
  focus (intro w'; (try simp only [List.getElem_toArray, List.getElem_cons_zero, List.getElem_cons_succ]); go_simp; try with_reducible rfl)
  (try simp only [List.getElem_toArray, List.getElem_cons_zero, List.getElem_cons_succ, Act.put, List.setIfInBounds_toArray, List.set_cons_zero, List.set_cons_succ])
  refine wpTree_pure (v := ?_) rfl (by rfl) ?_ (fun _ _ _ h => h) ?_
  rotate_left
  focus (intro w'; (try simp only [List.getElem_toArray, List.getElem_cons_zero, List.getElem_cons_succ]); go_simp; try with_reducible rfl)
  (try simp only [List.getElem_toArray, List.getElem_cons_zero, List.getElem_cons_succ, Act.put, List.setIfInBounds_toArray, List.set_cons_zero, List.set_cons_succ])
  refine wpTree_take (v := ?_) rfl (by rfl) ?_ (fun _ _ _ h => h) ?_
  rotate_left
  focus (intro w' hSw; obtain ⟨y0, y1, y2, y3⟩ := cells4 hSw.c0; obtain ⟨z0, z1, z2, z3⟩ := cells4 hSw.c1; clear hSw; (try simp only [List.getElem_toArray, List.getElem_cons_zero, List.getElem_cons_succ]); go_simp; try with_reducible rfl)
  (try simp only [List.getElem_toArray, List.getElem_cons_zero, List.getElem_cons_succ, Act.put, List.setIfInBounds_toArray, List.set_cons_zero, List.set_cons_succ])
  refine wpTree_take (v := ?_) rfl (by rfl) ?_ (fun _ _ _ h => h) ?_
  rotate_left
  focus (intro w' hSw; obtain ⟨y0, y1, y2, y3⟩ := cells4 hSw.c0; obtain ⟨z0, z1, z2, z3⟩ := cells4 hSw.c1; clear hSw; (try simp only [List.getElem_toArray, List.getElem_cons_zero, List.getElem_cons_succ]); go_simp; try with_reducible rfl)
  (try simp only [List.getElem_toArray, List.getElem_cons_zero, List.getElem_cons_succ, Act.put, List.setIfInBounds_toArray, List.set_cons_zero, List.set_cons_succ])
  refine wpTree_pure (v := ?_) rfl (by rfl) ?_ (fun _ _ _ h => h) ?_
  rotate_left
  focus (intro w'; (try simp only [List.getElem_toArray, List.getElem_cons_zero, List.getElem_cons_succ]); go_simp; try with_reducible rfl)
  (try simp only [List.getElem_toArray, List.getElem_cons_zero, List.getElem_cons_succ, Act.put, List.setIfInBounds_toArray, List.set_cons_zero, List.set_cons_succ])
  refine wpTree_pure (v := ?_) rfl (by rfl) ?_ (fun _ _ _ h => h) ?_
  rotate_left
  focus (intro w'; (try simp only [List.getElem_toArray, List.getElem_cons_zero, List.getElem_cons_succ]); go_simp; try with_reducible rfl)
  (try simp only [List.getElem_toArray, List.getElem_cons_zero, List.getElem_cons_succ, Act.put, List.setIfInBounds_toArray, List.set_cons_zero, List.set_cons_succ])
  refine wpTree_pure (v := ?_) rfl (by rfl) ?_ (fun _ _ _ h => h) ?_
  rotate_left
  focus (intro w'; (try simp only [List.getElem_toArray, List.getElem_cons_zero, List.getElem_cons_succ]); go_simp; try with_reducible rfl)
  (try simp only [List.getElem_toArray, List.getElem_cons_zero, List.getElem_cons_succ, Act.put, List.setIfInBounds_toArray, List.set_cons_zero, List.set_cons_succ])
  refine wpTree_do rfl (by rfl) ?_
  (try simp only [List.getElem_toArray, List.getElem_cons_zero, List.getElem_cons_succ])
  go_simp
  go_at_call 96
  (with_reducible refine (way_any s _ ha hb).mono ?_)
  rintro e u1 ⟨rfl, hbu1⟩
  refine ⟨fun h => h.later hbu1, ?_⟩
  (try simp only [List.getElem_toArray, List.getElem_cons_zero, List.getElem_cons_succ, Act.put, List.setIfInBounds_toArray, List.set_cons_zero, List.set_cons_succ])
  refine wpTree_do rfl (by rfl) ?_
  (try simp only [List.getElem_toArray, List.getElem_cons_zero, List.getElem_cons_succ])
  go_simp
  go_at_call 96
  (with_reducible refine (way_any s _ ha hb).mono ?_)
  rintro e u2 ⟨rfl, hbu2⟩
  refine ⟨fun h => h.later hbu2, ?_⟩
  (try simp only [List.getElem_toArray, List.getElem_cons_zero, List.getElem_cons_succ, Act.put, List.setIfInBounds_toArray, List.set_cons_zero, List.set_cons_succ])
  refine wpTree_do rfl (by rfl) ?_
  (try simp only [List.getElem_toArray, List.getElem_cons_zero, List.getElem_cons_succ])
  go_simp
  go_at_call 95
  (with_reducible refine (dot_any (wayS s) (wayS s) _ (way_small ha hb) (way_small ha hb)).mono ?_)
  rintro e u3 ⟨rfl, hbu3⟩
  refine ⟨fun h => h.later hbu3, ?_⟩
  (try simp only [List.getElem_toArray, List.getElem_cons_zero, List.getElem_cons_succ, Act.put, List.setIfInBounds_toArray, List.set_cons_zero, List.set_cons_succ])
  refine wpTree_pure (v := ?_) rfl (by rfl) ?_ (fun _ _ _ h => h) ?_
  rotate_left
  focus (intro w'; (try simp only [List.getElem_toArray, List.getElem_cons_zero, List.getElem_cons_succ]); go_simp; try with_reducible rfl)
  (try simp only [List.getElem_toArray, List.getElem_cons_zero, List.getElem_cons_succ, Act.put, List.setIfInBounds_toArray, List.set_cons_zero, List.set_cons_succ])
  refine wpTree_pure (v := ?_) rfl (by rfl) ?_ (fun _ _ _ h => h) ?_
  rotate_left
  focus (intro w'; (try simp only [List.getElem_toArray, List.getElem_cons_zero, List.getElem_cons_succ]); go_simp; try with_reducible rfl)
  (try simp only [List.getElem_toArray, List.getElem_cons_zero, List.getElem_cons_succ, Act.put, List.setIfInBounds_toArray, List.set_cons_zero, List.set_cons_succ])
  refine wpTree_pure (v := ?_) rfl (by rfl) ?_ (fun _ _ _ h => h) ?_
  rotate_left
  focus (intro w'; (try simp only [List.getElem_toArray, List.getElem_cons_zero, List.getElem_cons_succ]); go_simp; try with_reducible rfl)
  (try simp only [List.getElem_toArray, List.getElem_cons_zero, List.getElem_cons_succ, Act.put, List.setIfInBounds_toArray, List.set_cons_zero, List.set_cons_succ])
  unfold wpTree
  have hres : Hid (shareB s t = decide (max 0 (min (dotP (wayS s) (wayS ⟨s.a, t.a⟩)) (dotP (wayS s) (wayS ⟨s.a, t.b⟩))) < min (dotP (wayS s) (wayS s)) (max (dotP (wayS s) (wayS ⟨s.a, t.a⟩)) (dotP (wayS s) (wayS ⟨s.a, t.b⟩))))) := by
    unfold Hid shareB; rw [decide_eq_true q1.out, decide_eq_true q2.out]; rfl
  go_wp2
  go_ret
  exact ⟨by rw [hres.out]; rfl, (((hXp.out.later hbu1).later hbu2).later hbu3).below⟩
end Go.Proofs.YthojfhdenfhjfaaDoor
end
