/-
  Which fields a chore of a kind names: the eight closures, walked. The table of what chores of each kind do and which fields they name: straw.works, walked.
-/
import Derived.Test.YtpgkhlpepckfgaaXa05
import Derived.Test.YtpgkhlpepckfgaaXa17
import Derived.Test.YtpgkhlpepckfgaaXa23
import Derived.Deep.DeepCutAuto
import Derived.Laws.Rows
set_option linter.all false
set_option linter.unusedVariables false
set_option linter.unusedSimpArgs false
section
namespace Go.Proofs.Ytpgkhlpepckfgaa
open Go.RowKit Go.Lib

theorem set9 {W : World} {b : Nat} {a0 a1 a2 a3 a4 a5 a6 a7 a8 : Value} {t : TypeId} (v0 v1 v2 v3 v4 v5 v6 v7 v8 : Value) (h : W.heap[b]? = some (.cells #[a0, a1, a2, a3, a4, a5, a6, a7, a8] t (0, 0))) :
    (((((((((W.setCell ⟨b, 0, none⟩ v0).setCell ⟨b, 1, none⟩ v1).setCell ⟨b, 2, none⟩ v2).setCell ⟨b, 3, none⟩ v3).setCell ⟨b, 4, none⟩ v4).setCell ⟨b, 5, none⟩ v5).setCell ⟨b, 6, none⟩ v6).setCell ⟨b, 7, none⟩ v7).setCell ⟨b, 8, none⟩ v8).heap[b]? = some (.cells #[v0, v1, v2, v3, v4, v5, v6, v7, v8] t (0, 0)) := by
  have h0 := set_cells (o := 0) h v0
  have h1 := set_cells (o := 1) h0 v1
  have h2 := set_cells (o := 2) h1 v2
  have h3 := set_cells (o := 3) h2 v3
  have h4 := set_cells (o := 4) h3 v4
  have h5 := set_cells (o := 5) h4 v5
  have h6 := set_cells (o := 6) h5 v6
  have h7 := set_cells (o := 7) h6 v7
  have h8 := set_cells (o := 8) h7 v8
  simpa using h8
theorem set9_below {W w : World} {B b : Nat} (v0 v1 v2 v3 v4 v5 v6 v7 v8 : Value) (h : Below B w W) (hb : B ≤ b) :
    Below B w (((((((((W.setCell ⟨b, 0, none⟩ v0).setCell ⟨b, 1, none⟩ v1).setCell ⟨b, 2, none⟩ v2).setCell ⟨b, 3, none⟩ v3).setCell ⟨b, 4, none⟩ v4).setCell ⟨b, 5, none⟩ v5).setCell ⟨b, 6, none⟩ v6).setCell ⟨b, 7, none⟩ v7).setCell ⟨b, 8, none⟩ v8) :=
  ((((((((h.setCell (p := ⟨b, 0, none⟩) hb _).setCell (p := ⟨b, 1, none⟩) hb _).setCell (p := ⟨b, 2, none⟩) hb _).setCell (p := ⟨b, 3, none⟩) hb _).setCell (p := ⟨b, 4, none⟩) hb _).setCell (p := ⟨b, 5, none⟩) hb _).setCell (p := ⟨b, 6, none⟩) hb _).setCell (p := ⟨b, 7, none⟩) hb _).setCell (p := ⟨b, 8, none⟩) hb _
theorem nine_cells2 {w : World} {b : Nat} {v0 v1 v2 v3 v4 v5 v6 v7 v8 : Value} {t : TypeId} (h : w.heap[b]? = some (.cells #[v0, v1, v2, v3, v4, v5, v6, v7, v8] t (0, 0))) : w.cell? ⟨b, 0, none⟩ = some v0 ∧ w.cell? ⟨b, 1, none⟩ = some v1 ∧ w.cell? ⟨b, 2, none⟩ = some v2 ∧ w.cell? ⟨b, 3, none⟩ = some v3 ∧ w.cell? ⟨b, 4, none⟩ = some v4 ∧ w.cell? ⟨b, 5, none⟩ = some v5 ∧ w.cell? ⟨b, 6, none⟩ = some v6 ∧ w.cell? ⟨b, 7, none⟩ = some v7 ∧ w.cell? ⟨b, 8, none⟩ = some v8 := by
  refine ⟨?_, ?_, ?_, ?_, ?_, ?_, ?_, ?_, ?_⟩ <;> simp [World.cell?, h]

/-- What a closure hands back. -/
def NamesOut (a : Chore) (w : World) (e : Ending) (w' : World) : Prop := e = .returned (choreVal a) ∧ Below w.heap.size w w'

set_option maxHeartbeats 1000000 in
set_option maxRecDepth 100000 in
theorem names92_any (a : Chore) (w : World) : Calls Try.prog 92 #[choreVal a] w (NamesOut ⟨0, 0, 0, noName, noName, 0, 0, ⟨0, 0⟩⟩ w) := by
  obtain ⟨W0, hW0⟩ : ∃ W0, W0 = (w.alloc (.cells (choreCells a) 64)).alloc (.cells #[.int .i64 0, .int .i64 0, .int .i64 0, .string ⟨#[]⟩, .string ⟨#[]⟩, .int .i64 0, .int .i64 0, .int .i64 0, .int .i64 0] 64) := ⟨_, rfl⟩
  have hb0 : Below w.heap.size w W0 := by rw [hW0]; exact ((Below.refl _ w).alloc (Nat.le_refl _) _).alloc (by simp) _
  have hx0 : W0.heap[w.heap.size]? = some (.cells (choreCells a) 64 (0, 0)) := by rw [hW0]; exact heap_old _ _ _ _ (heap_new _ _ _ rfl)
  have hx1 : W0.heap[w.heap.size + 1]? = some (.cells #[.int .i64 0, .int .i64 0, .int .i64 0, .string ⟨#[]⟩, .string ⟨#[]⟩, .int .i64 0, .int .i64 0, .int .i64 0, .int .i64 0] 64 (0, 0)) := by rw [hW0]; exact heap_new _ _ _ (by simp)
  obtain ⟨c0, c1, c2, c3, c4, c5, c6, c7, c8⟩ := nine_cells2 hx0
  obtain ⟨d0, d1, d2, d3, d4, d5, d6, d7, d8⟩ := nine_cells2 hx1
  have hfz : ∀ j, W0.frozen? ⟨w.heap.size + 1, j, none⟩ = false := fun j => frozen_of_row W0 _ j _ _ hx1
  have f0 := hfz 0
  have f1 := hfz 1
  have f2 := hfz 2
  have f3 := hfz 3
  have f4 := hfz 4
  have f5 := hfz 5
  have f6 := hfz 6
  have f7 := hfz 7
  have f8 := hfz 8
  clear hfz
  replace hb0 := Lib.hid hb0
  replace hx0 := Lib.hid hx0
  replace hx1 := Lib.hid hx1
  go_enter Try.func92, Try.ntmps92
  go_upto_region 1 with fail
  rw [← hW0]
  replace hW0 := Lib.hid hW0
  go_wp2_with fail
  refine bodyPost_ret (results_cell_row rfl _ _ (w.heap.size + 1) 64 _ (0, 0) _ rfl (set9 _ _ _ _ _ _ _ _ _ hx1.out) Try.underlying64 rfl (by kernel_rfl)) rfl ?_
  exact ⟨rfl, set9_below _ _ _ _ _ _ _ _ _ hb0.out (Nat.le_succ _)⟩

set_option maxHeartbeats 1000000 in
set_option maxRecDepth 100000 in
theorem names94_any (a : Chore) (w : World) : Calls Try.prog 94 #[choreVal a] w (NamesOut ⟨0, a.plot, a.loads, a.name, noName, 0, 0, ⟨0, 0⟩⟩ w) := by
  obtain ⟨W0, hW0⟩ : ∃ W0, W0 = (w.alloc (.cells (choreCells a) 64)).alloc (.cells #[.int .i64 0, .int .i64 0, .int .i64 0, .string ⟨#[]⟩, .string ⟨#[]⟩, .int .i64 0, .int .i64 0, .int .i64 0, .int .i64 0] 64) := ⟨_, rfl⟩
  have hb0 : Below w.heap.size w W0 := by rw [hW0]; exact ((Below.refl _ w).alloc (Nat.le_refl _) _).alloc (by simp) _
  have hx0 : W0.heap[w.heap.size]? = some (.cells (choreCells a) 64 (0, 0)) := by rw [hW0]; exact heap_old _ _ _ _ (heap_new _ _ _ rfl)
  have hx1 : W0.heap[w.heap.size + 1]? = some (.cells #[.int .i64 0, .int .i64 0, .int .i64 0, .string ⟨#[]⟩, .string ⟨#[]⟩, .int .i64 0, .int .i64 0, .int .i64 0, .int .i64 0] 64 (0, 0)) := by rw [hW0]; exact heap_new _ _ _ (by simp)
  obtain ⟨c0, c1, c2, c3, c4, c5, c6, c7, c8⟩ := nine_cells2 hx0
  obtain ⟨d0, d1, d2, d3, d4, d5, d6, d7, d8⟩ := nine_cells2 hx1
  have hfz : ∀ j, W0.frozen? ⟨w.heap.size + 1, j, none⟩ = false := fun j => frozen_of_row W0 _ j _ _ hx1
  have f0 := hfz 0
  have f1 := hfz 1
  have f2 := hfz 2
  have f3 := hfz 3
  have f4 := hfz 4
  have f5 := hfz 5
  have f6 := hfz 6
  have f7 := hfz 7
  have f8 := hfz 8
  clear hfz
  replace hb0 := Lib.hid hb0
  replace hx0 := Lib.hid hx0
  replace hx1 := Lib.hid hx1
  go_enter Try.func94, Try.ntmps94
  go_upto_region 1 with fail
  rw [← hW0]
  replace hW0 := Lib.hid hW0
  go_wp2_with fail
  refine bodyPost_ret (results_cell_row rfl _ _ (w.heap.size + 1) 64 _ (0, 0) _ rfl (set9 _ _ _ _ _ _ _ _ _ hx1.out) Try.underlying64 rfl (by kernel_rfl)) rfl ?_
  exact ⟨rfl, set9_below _ _ _ _ _ _ _ _ _ hb0.out (Nat.le_succ _)⟩

set_option maxHeartbeats 1000000 in
set_option maxRecDepth 100000 in
theorem names96_any (a : Chore) (w : World) : Calls Try.prog 96 #[choreVal a] w (NamesOut ⟨0, 0, 0, a.name, noName, a.days, 0, a.rain⟩ w) := by
  obtain ⟨W0, hW0⟩ : ∃ W0, W0 = (w.alloc (.cells (choreCells a) 64)).alloc (.cells #[.int .i64 0, .int .i64 0, .int .i64 0, .string ⟨#[]⟩, .string ⟨#[]⟩, .int .i64 0, .int .i64 0, .int .i64 0, .int .i64 0] 64) := ⟨_, rfl⟩
  have hb0 : Below w.heap.size w W0 := by rw [hW0]; exact ((Below.refl _ w).alloc (Nat.le_refl _) _).alloc (by simp) _
  have hx0 : W0.heap[w.heap.size]? = some (.cells (choreCells a) 64 (0, 0)) := by rw [hW0]; exact heap_old _ _ _ _ (heap_new _ _ _ rfl)
  have hx1 : W0.heap[w.heap.size + 1]? = some (.cells #[.int .i64 0, .int .i64 0, .int .i64 0, .string ⟨#[]⟩, .string ⟨#[]⟩, .int .i64 0, .int .i64 0, .int .i64 0, .int .i64 0] 64 (0, 0)) := by rw [hW0]; exact heap_new _ _ _ (by simp)
  obtain ⟨c0, c1, c2, c3, c4, c5, c6, c7, c8⟩ := nine_cells2 hx0
  obtain ⟨d0, d1, d2, d3, d4, d5, d6, d7, d8⟩ := nine_cells2 hx1
  have hfz : ∀ j, W0.frozen? ⟨w.heap.size + 1, j, none⟩ = false := fun j => frozen_of_row W0 _ j _ _ hx1
  have f0 := hfz 0
  have f1 := hfz 1
  have f2 := hfz 2
  have f3 := hfz 3
  have f4 := hfz 4
  have f5 := hfz 5
  have f6 := hfz 6
  have f7 := hfz 7
  have f8 := hfz 8
  clear hfz
  replace hb0 := Lib.hid hb0
  replace hx0 := Lib.hid hx0
  replace hx1 := Lib.hid hx1
  go_enter Try.func96, Try.ntmps96
  go_upto_region 1 with fail
  rw [← hW0]
  replace hW0 := Lib.hid hW0
  go_wp2_with fail
  refine bodyPost_ret (results_cell_row rfl _ _ (w.heap.size + 1) 64 _ (0, 0) _ rfl (set9 _ _ _ _ _ _ _ _ _ hx1.out) Try.underlying64 rfl (by kernel_rfl)) rfl ?_
  exact ⟨rfl, set9_below _ _ _ _ _ _ _ _ _ hb0.out (Nat.le_succ _)⟩

set_option maxHeartbeats 1000000 in
set_option maxRecDepth 100000 in
theorem names98_any (a : Chore) (w : World) : Calls Try.prog 98 #[choreVal a] w (NamesOut ⟨0, 0, a.loads, a.name, noName, 0, 0, ⟨0, 0⟩⟩ w) := by
  obtain ⟨W0, hW0⟩ : ∃ W0, W0 = (w.alloc (.cells (choreCells a) 64)).alloc (.cells #[.int .i64 0, .int .i64 0, .int .i64 0, .string ⟨#[]⟩, .string ⟨#[]⟩, .int .i64 0, .int .i64 0, .int .i64 0, .int .i64 0] 64) := ⟨_, rfl⟩
  have hb0 : Below w.heap.size w W0 := by rw [hW0]; exact ((Below.refl _ w).alloc (Nat.le_refl _) _).alloc (by simp) _
  have hx0 : W0.heap[w.heap.size]? = some (.cells (choreCells a) 64 (0, 0)) := by rw [hW0]; exact heap_old _ _ _ _ (heap_new _ _ _ rfl)
  have hx1 : W0.heap[w.heap.size + 1]? = some (.cells #[.int .i64 0, .int .i64 0, .int .i64 0, .string ⟨#[]⟩, .string ⟨#[]⟩, .int .i64 0, .int .i64 0, .int .i64 0, .int .i64 0] 64 (0, 0)) := by rw [hW0]; exact heap_new _ _ _ (by simp)
  obtain ⟨c0, c1, c2, c3, c4, c5, c6, c7, c8⟩ := nine_cells2 hx0
  obtain ⟨d0, d1, d2, d3, d4, d5, d6, d7, d8⟩ := nine_cells2 hx1
  have hfz : ∀ j, W0.frozen? ⟨w.heap.size + 1, j, none⟩ = false := fun j => frozen_of_row W0 _ j _ _ hx1
  have f0 := hfz 0
  have f1 := hfz 1
  have f2 := hfz 2
  have f3 := hfz 3
  have f4 := hfz 4
  have f5 := hfz 5
  have f6 := hfz 6
  have f7 := hfz 7
  have f8 := hfz 8
  clear hfz
  replace hb0 := Lib.hid hb0
  replace hx0 := Lib.hid hx0
  replace hx1 := Lib.hid hx1
  go_enter Try.func98, Try.ntmps98
  go_upto_region 1 with fail
  rw [← hW0]
  replace hW0 := Lib.hid hW0
  go_wp2_with fail
  refine bodyPost_ret (results_cell_row rfl _ _ (w.heap.size + 1) 64 _ (0, 0) _ rfl (set9 _ _ _ _ _ _ _ _ _ hx1.out) Try.underlying64 rfl (by kernel_rfl)) rfl ?_
  exact ⟨rfl, set9_below _ _ _ _ _ _ _ _ _ hb0.out (Nat.le_succ _)⟩

set_option maxHeartbeats 1000000 in
set_option maxRecDepth 100000 in
theorem names100_any (a : Chore) (w : World) : Calls Try.prog 100 #[choreVal a] w (NamesOut ⟨0, 0, 0, a.name, a.other, 0, 0, ⟨0, 0⟩⟩ w) := by
  obtain ⟨W0, hW0⟩ : ∃ W0, W0 = (w.alloc (.cells (choreCells a) 64)).alloc (.cells #[.int .i64 0, .int .i64 0, .int .i64 0, .string ⟨#[]⟩, .string ⟨#[]⟩, .int .i64 0, .int .i64 0, .int .i64 0, .int .i64 0] 64) := ⟨_, rfl⟩
  have hb0 : Below w.heap.size w W0 := by rw [hW0]; exact ((Below.refl _ w).alloc (Nat.le_refl _) _).alloc (by simp) _
  have hx0 : W0.heap[w.heap.size]? = some (.cells (choreCells a) 64 (0, 0)) := by rw [hW0]; exact heap_old _ _ _ _ (heap_new _ _ _ rfl)
  have hx1 : W0.heap[w.heap.size + 1]? = some (.cells #[.int .i64 0, .int .i64 0, .int .i64 0, .string ⟨#[]⟩, .string ⟨#[]⟩, .int .i64 0, .int .i64 0, .int .i64 0, .int .i64 0] 64 (0, 0)) := by rw [hW0]; exact heap_new _ _ _ (by simp)
  obtain ⟨c0, c1, c2, c3, c4, c5, c6, c7, c8⟩ := nine_cells2 hx0
  obtain ⟨d0, d1, d2, d3, d4, d5, d6, d7, d8⟩ := nine_cells2 hx1
  have hfz : ∀ j, W0.frozen? ⟨w.heap.size + 1, j, none⟩ = false := fun j => frozen_of_row W0 _ j _ _ hx1
  have f0 := hfz 0
  have f1 := hfz 1
  have f2 := hfz 2
  have f3 := hfz 3
  have f4 := hfz 4
  have f5 := hfz 5
  have f6 := hfz 6
  have f7 := hfz 7
  have f8 := hfz 8
  clear hfz
  replace hb0 := Lib.hid hb0
  replace hx0 := Lib.hid hx0
  replace hx1 := Lib.hid hx1
  go_enter Try.func100, Try.ntmps100
  go_upto_region 1 with fail
  rw [← hW0]
  replace hW0 := Lib.hid hW0
  go_wp2_with fail
  refine bodyPost_ret (results_cell_row rfl _ _ (w.heap.size + 1) 64 _ (0, 0) _ rfl (set9 _ _ _ _ _ _ _ _ _ hx1.out) Try.underlying64 rfl (by kernel_rfl)) rfl ?_
  exact ⟨rfl, set9_below _ _ _ _ _ _ _ _ _ hb0.out (Nat.le_succ _)⟩

set_option maxHeartbeats 1000000 in
set_option maxRecDepth 100000 in
theorem names102_any (a : Chore) (w : World) : Calls Try.prog 102 #[choreVal a] w (NamesOut ⟨0, 0, 0, a.name, a.other, 0, a.per, ⟨0, 0⟩⟩ w) := by
  obtain ⟨W0, hW0⟩ : ∃ W0, W0 = (w.alloc (.cells (choreCells a) 64)).alloc (.cells #[.int .i64 0, .int .i64 0, .int .i64 0, .string ⟨#[]⟩, .string ⟨#[]⟩, .int .i64 0, .int .i64 0, .int .i64 0, .int .i64 0] 64) := ⟨_, rfl⟩
  have hb0 : Below w.heap.size w W0 := by rw [hW0]; exact ((Below.refl _ w).alloc (Nat.le_refl _) _).alloc (by simp) _
  have hx0 : W0.heap[w.heap.size]? = some (.cells (choreCells a) 64 (0, 0)) := by rw [hW0]; exact heap_old _ _ _ _ (heap_new _ _ _ rfl)
  have hx1 : W0.heap[w.heap.size + 1]? = some (.cells #[.int .i64 0, .int .i64 0, .int .i64 0, .string ⟨#[]⟩, .string ⟨#[]⟩, .int .i64 0, .int .i64 0, .int .i64 0, .int .i64 0] 64 (0, 0)) := by rw [hW0]; exact heap_new _ _ _ (by simp)
  obtain ⟨c0, c1, c2, c3, c4, c5, c6, c7, c8⟩ := nine_cells2 hx0
  obtain ⟨d0, d1, d2, d3, d4, d5, d6, d7, d8⟩ := nine_cells2 hx1
  have hfz : ∀ j, W0.frozen? ⟨w.heap.size + 1, j, none⟩ = false := fun j => frozen_of_row W0 _ j _ _ hx1
  have f0 := hfz 0
  have f1 := hfz 1
  have f2 := hfz 2
  have f3 := hfz 3
  have f4 := hfz 4
  have f5 := hfz 5
  have f6 := hfz 6
  have f7 := hfz 7
  have f8 := hfz 8
  clear hfz
  replace hb0 := Lib.hid hb0
  replace hx0 := Lib.hid hx0
  replace hx1 := Lib.hid hx1
  go_enter Try.func102, Try.ntmps102
  go_upto_region 1 with fail
  rw [← hW0]
  replace hW0 := Lib.hid hW0
  go_wp2_with fail
  refine bodyPost_ret (results_cell_row rfl _ _ (w.heap.size + 1) 64 _ (0, 0) _ rfl (set9 _ _ _ _ _ _ _ _ _ hx1.out) Try.underlying64 rfl (by kernel_rfl)) rfl ?_
  exact ⟨rfl, set9_below _ _ _ _ _ _ _ _ _ hb0.out (Nat.le_succ _)⟩

set_option maxHeartbeats 1000000 in
set_option maxRecDepth 100000 in
theorem names104_any (a : Chore) (w : World) : Calls Try.prog 104 #[choreVal a] w (NamesOut ⟨0, 0, a.loads, a.name, noName, 0, 0, ⟨0, 0⟩⟩ w) := by
  obtain ⟨W0, hW0⟩ : ∃ W0, W0 = (w.alloc (.cells (choreCells a) 64)).alloc (.cells #[.int .i64 0, .int .i64 0, .int .i64 0, .string ⟨#[]⟩, .string ⟨#[]⟩, .int .i64 0, .int .i64 0, .int .i64 0, .int .i64 0] 64) := ⟨_, rfl⟩
  have hb0 : Below w.heap.size w W0 := by rw [hW0]; exact ((Below.refl _ w).alloc (Nat.le_refl _) _).alloc (by simp) _
  have hx0 : W0.heap[w.heap.size]? = some (.cells (choreCells a) 64 (0, 0)) := by rw [hW0]; exact heap_old _ _ _ _ (heap_new _ _ _ rfl)
  have hx1 : W0.heap[w.heap.size + 1]? = some (.cells #[.int .i64 0, .int .i64 0, .int .i64 0, .string ⟨#[]⟩, .string ⟨#[]⟩, .int .i64 0, .int .i64 0, .int .i64 0, .int .i64 0] 64 (0, 0)) := by rw [hW0]; exact heap_new _ _ _ (by simp)
  obtain ⟨c0, c1, c2, c3, c4, c5, c6, c7, c8⟩ := nine_cells2 hx0
  obtain ⟨d0, d1, d2, d3, d4, d5, d6, d7, d8⟩ := nine_cells2 hx1
  have hfz : ∀ j, W0.frozen? ⟨w.heap.size + 1, j, none⟩ = false := fun j => frozen_of_row W0 _ j _ _ hx1
  have f0 := hfz 0
  have f1 := hfz 1
  have f2 := hfz 2
  have f3 := hfz 3
  have f4 := hfz 4
  have f5 := hfz 5
  have f6 := hfz 6
  have f7 := hfz 7
  have f8 := hfz 8
  clear hfz
  replace hb0 := Lib.hid hb0
  replace hx0 := Lib.hid hx0
  replace hx1 := Lib.hid hx1
  go_enter Try.func104, Try.ntmps104
  go_upto_region 1 with fail
  rw [← hW0]
  replace hW0 := Lib.hid hW0
  go_wp2_with fail
  refine bodyPost_ret (results_cell_row rfl _ _ (w.heap.size + 1) 64 _ (0, 0) _ rfl (set9 _ _ _ _ _ _ _ _ _ hx1.out) Try.underlying64 rfl (by kernel_rfl)) rfl ?_
  exact ⟨rfl, set9_below _ _ _ _ _ _ _ _ _ hb0.out (Nat.le_succ _)⟩

set_option maxHeartbeats 1000000 in
set_option maxRecDepth 100000 in
theorem names106_any (a : Chore) (w : World) : Calls Try.prog 106 #[choreVal a] w (NamesOut ⟨0, 0, 0, a.name, noName, 0, 0, ⟨0, 0⟩⟩ w) := by
  obtain ⟨W0, hW0⟩ : ∃ W0, W0 = (w.alloc (.cells (choreCells a) 64)).alloc (.cells #[.int .i64 0, .int .i64 0, .int .i64 0, .string ⟨#[]⟩, .string ⟨#[]⟩, .int .i64 0, .int .i64 0, .int .i64 0, .int .i64 0] 64) := ⟨_, rfl⟩
  have hb0 : Below w.heap.size w W0 := by rw [hW0]; exact ((Below.refl _ w).alloc (Nat.le_refl _) _).alloc (by simp) _
  have hx0 : W0.heap[w.heap.size]? = some (.cells (choreCells a) 64 (0, 0)) := by rw [hW0]; exact heap_old _ _ _ _ (heap_new _ _ _ rfl)
  have hx1 : W0.heap[w.heap.size + 1]? = some (.cells #[.int .i64 0, .int .i64 0, .int .i64 0, .string ⟨#[]⟩, .string ⟨#[]⟩, .int .i64 0, .int .i64 0, .int .i64 0, .int .i64 0] 64 (0, 0)) := by rw [hW0]; exact heap_new _ _ _ (by simp)
  obtain ⟨c0, c1, c2, c3, c4, c5, c6, c7, c8⟩ := nine_cells2 hx0
  obtain ⟨d0, d1, d2, d3, d4, d5, d6, d7, d8⟩ := nine_cells2 hx1
  have hfz : ∀ j, W0.frozen? ⟨w.heap.size + 1, j, none⟩ = false := fun j => frozen_of_row W0 _ j _ _ hx1
  have f0 := hfz 0
  have f1 := hfz 1
  have f2 := hfz 2
  have f3 := hfz 3
  have f4 := hfz 4
  have f5 := hfz 5
  have f6 := hfz 6
  have f7 := hfz 7
  have f8 := hfz 8
  clear hfz
  replace hb0 := Lib.hid hb0
  replace hx0 := Lib.hid hx0
  replace hx1 := Lib.hid hx1
  go_enter Try.func106, Try.ntmps106
  go_upto_region 1 with fail
  rw [← hW0]
  replace hW0 := Lib.hid hW0
  go_wp2_with fail
  refine bodyPost_ret (results_cell_row rfl _ _ (w.heap.size + 1) 64 _ (0, 0) _ rfl (set9 _ _ _ _ _ _ _ _ _ hx1.out) Try.underlying64 rfl (by kernel_rfl)) rfl ?_
  exact ⟨rfl, set9_below _ _ _ _ _ _ _ _ _ hb0.out (Nat.le_succ _)⟩
end Go.Proofs.Ytpgkhlpepckfgaa
end
section
namespace Go.Proofs.Ytpgkhlpepckfgaa
open Go.RowKit Go.Lib
open Go.Maps

def workV (i : Nat) : Value := .agg #[.func (.func (91 + 2 * i)) #[] #[], .func (.func (92 + 2 * i)) #[] #[]]
def workM (j : Nat) : Value → Option Value
  | .int .i64 k => if 1 ≤ k ∧ k ≤ (j : Int) then some (workV (k.toNat - 1)) else none
  | _ => none
theorem workM_other (j : Nat) (x : Value) (h : x ≠ .int .i64 ((j : Int) + 1)) : workM (j + 1) x = workM j x := by
  unfold workM
  split
  · rename_i k
    have hk : k ≠ (j : Int) + 1 := fun e => h (by rw [e])
    by_cases h1 : 1 ≤ k ∧ k ≤ (j : Int)
    · rw [if_pos h1, if_pos ⟨h1.1, by omega⟩]
    · rw [if_neg h1, if_neg (fun h2 => h1 ⟨h2.1, by omega⟩)]
  · rfl
theorem workM_zero (x : Value) : workM 0 x = none := by
  unfold workM
  split
  · exact if_neg (fun h => by omega)
  · rfl
def WorksOut (w : World) (e : Ending) (w' : World) : Prop := e = .returned (.map (some w.heap.size)) ∧ MapIs w' Try.prog 60 w.heap.size 8 (workM 8) ∧ Below w.heap.size w w'

set_option maxHeartbeats 2000000 in
set_option maxRecDepth 100000 in
theorem works_any (w : World) : Calls Try.prog 74 #[] w (WorksOut w) := by
  have hmm := @run_makeMap Try.prog
  have h0 : MapIs (w.alloc (.map #[] 0)) Try.prog 60 w.heap.size 0 (workM 0) := (MapIs.made w Try.prog 60).ext (fun _ _ _ => workM_zero _)
  have hb0 : Below w.heap.size w (w.alloc (.map #[] 0)) := (Below.refl _ w).alloc (Nat.le_refl _) _
  replace h0 := Lib.hid h0
  replace hb0 := Lib.hid hb0
  go_enter Try.func74, Try.ntmps74
  go_wp2_with (first
    | (refine wp_insert _ rfl _ _ _ 122 rfl 60 120 (int_keyed Try.underlying60) Try.underlying122 w.heap.size 7 (workM 7) rfl h7.out (.int .i64 8) (workV 7) _ rfl rfl (keyOf_int_mk Try.underlying60 (by decide)) (workM 8) rfl (fun x _ _ hx => workM_other 7 x hx) ?_; intro w8 h8 hg hz; have hb8 := Lib.hid (hb7.out.grown hg hb7.out.size (fun k e => by cases e; exact Nat.le_refl _)); replace h8 := Lib.hid h8; clear hg hz)
    | (refine wp_insert _ rfl _ _ _ 122 rfl 60 120 (int_keyed Try.underlying60) Try.underlying122 w.heap.size 6 (workM 6) rfl h6.out (.int .i64 7) (workV 6) _ rfl rfl (keyOf_int_mk Try.underlying60 (by decide)) (workM 7) rfl (fun x _ _ hx => workM_other 6 x hx) ?_; intro w7 h7 hg hz; have hb7 := Lib.hid (hb6.out.grown hg hb6.out.size (fun k e => by cases e; exact Nat.le_refl _)); replace h7 := Lib.hid h7; clear hg hz)
    | (refine wp_insert _ rfl _ _ _ 122 rfl 60 120 (int_keyed Try.underlying60) Try.underlying122 w.heap.size 5 (workM 5) rfl h5.out (.int .i64 6) (workV 5) _ rfl rfl (keyOf_int_mk Try.underlying60 (by decide)) (workM 6) rfl (fun x _ _ hx => workM_other 5 x hx) ?_; intro w6 h6 hg hz; have hb6 := Lib.hid (hb5.out.grown hg hb5.out.size (fun k e => by cases e; exact Nat.le_refl _)); replace h6 := Lib.hid h6; clear hg hz)
    | (refine wp_insert _ rfl _ _ _ 122 rfl 60 120 (int_keyed Try.underlying60) Try.underlying122 w.heap.size 4 (workM 4) rfl h4.out (.int .i64 5) (workV 4) _ rfl rfl (keyOf_int_mk Try.underlying60 (by decide)) (workM 5) rfl (fun x _ _ hx => workM_other 4 x hx) ?_; intro w5 h5 hg hz; have hb5 := Lib.hid (hb4.out.grown hg hb4.out.size (fun k e => by cases e; exact Nat.le_refl _)); replace h5 := Lib.hid h5; clear hg hz)
    | (refine wp_insert _ rfl _ _ _ 122 rfl 60 120 (int_keyed Try.underlying60) Try.underlying122 w.heap.size 3 (workM 3) rfl h3.out (.int .i64 4) (workV 3) _ rfl rfl (keyOf_int_mk Try.underlying60 (by decide)) (workM 4) rfl (fun x _ _ hx => workM_other 3 x hx) ?_; intro w4 h4 hg hz; have hb4 := Lib.hid (hb3.out.grown hg hb3.out.size (fun k e => by cases e; exact Nat.le_refl _)); replace h4 := Lib.hid h4; clear hg hz)
    | (refine wp_insert _ rfl _ _ _ 122 rfl 60 120 (int_keyed Try.underlying60) Try.underlying122 w.heap.size 2 (workM 2) rfl h2.out (.int .i64 3) (workV 2) _ rfl rfl (keyOf_int_mk Try.underlying60 (by decide)) (workM 3) rfl (fun x _ _ hx => workM_other 2 x hx) ?_; intro w3 h3 hg hz; have hb3 := Lib.hid (hb2.out.grown hg hb2.out.size (fun k e => by cases e; exact Nat.le_refl _)); replace h3 := Lib.hid h3; clear hg hz)
    | (refine wp_insert _ rfl _ _ _ 122 rfl 60 120 (int_keyed Try.underlying60) Try.underlying122 w.heap.size 1 (workM 1) rfl h1.out (.int .i64 2) (workV 1) _ rfl rfl (keyOf_int_mk Try.underlying60 (by decide)) (workM 2) rfl (fun x _ _ hx => workM_other 1 x hx) ?_; intro w2 h2 hg hz; have hb2 := Lib.hid (hb1.out.grown hg hb1.out.size (fun k e => by cases e; exact Nat.le_refl _)); replace h2 := Lib.hid h2; clear hg hz)
    | (refine wp_insert _ rfl _ _ _ 122 rfl 60 120 (int_keyed Try.underlying60) Try.underlying122 w.heap.size 0 (workM 0) rfl h0.out (.int .i64 1) (workV 0) _ rfl rfl (keyOf_int_mk Try.underlying60 (by decide)) (workM 1) rfl (fun x _ _ hx => workM_other 0 x hx) ?_; intro w1 h1 hg hz; have hb1 := Lib.hid (hb0.out.grown hg hb0.out.size (fun k e => by cases e; exact Nat.le_refl _)); replace h1 := Lib.hid h1; clear hg hz))
  go_ret
  exact ⟨rfl, h8.out, hb8.out⟩
end Go.Proofs.Ytpgkhlpepckfgaa
end
