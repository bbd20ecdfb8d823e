/-
  The fields that a chore's kind names, as the specification has it, and a number held between two others: walked. Heaps dry, as the specification has it: walked. Heaps rot, as the specification has it: walked.
-/
import Derived.Test.YtpgkhlpepckfgaaXa22
import Derived.Test.YtpgkhlpepckfgaaXa31
import Derived.Test.YtpgkhlpepckfgaaXb01
import Derived.Test.YtpgkhlpepckfgaaXb02
set_option linter.all false
set_option linter.unusedVariables false
set_option linter.unusedSimpArgs false
section
namespace Go.Proofs.Ytpgkhlpepckfgaa
open Go.RowKit Go.Lib

theorem clamp_any (n : Int) (W : World) : Calls Try.prog 110 #[.int .i64 n] W fun e w' => e = .returned (.int .i64 (clampP n)) ∧ w' = W := by
  have h1 : ∀ (w : World) (ts : Array TypeId) (t : TypeId), (Builtin.min_ ts t #[.int .i64 1000, .int .i64 n]).run Try.prog w = .ok (.int .i64 (min 1000 n)) w := fun w ts t => run_min_ints w ts t _ _ _ _
  have e : max 0 (min 1000 n) = clampP n := by unfold clampP; omega
  have h2 : ∀ (w : World) (ts : Array TypeId) (t : TypeId), (Builtin.max_ ts t #[.int .i64 0, .int .i64 (min 1000 n)]).run Try.prog w = .ok (.int .i64 (clampP n)) w := fun w ts t => by
    rw [← e]; exact run_max_ints w ts t _ _ _ _
  replace e := Lib.hid e
  go_enter Try.func110, Try.ntmps110
  go_wp2
  go_ret
  exact ⟨rfl, rfl⟩
theorem set9d {W : World} {b : Nat} {a0 a1 a2 a3 a4 a5 a6 a7 a8 : Value} {t : TypeId} (v0 v1 v2 v3 v4 v5 v6 v7 v8 : Value) (h : W.heap[b]? = some (.cells #[a0, a1, a2, a3, a4, a5, a6, a7, a8] t (0, 0))) :
    (((((((((W.setCell ⟨b, 0, none⟩ v0).setCell ⟨b, 1, none⟩ v1).setCell ⟨b, 2, none⟩ v2).setCell ⟨b, 3, none⟩ v3).setCell ⟨b, 4, none⟩ v4).setCell ⟨b, 5, none⟩ v5).setCell ⟨b, 6, none⟩ v6).setCell ⟨b, 7, none⟩ v7).setCell ⟨b, 8, none⟩ v8).drew.heap[b]? = some (.cells #[v0, v1, v2, v3, v4, v5, v6, v7, v8] t (0, 0)) := by
  have h0 : ∀ X : World, X.drew.heap = X.heap := fun _ => rfl
  rw [h0]
  exact set9 _ _ _ _ _ _ _ _ _ h
theorem set9d_below {W w : World} {B b : Nat} (v0 v1 v2 v3 v4 v5 v6 v7 v8 : Value) (h : Below B w W) (hb : B ≤ b) :
    Below B w (((((((((W.setCell ⟨b, 0, none⟩ v0).setCell ⟨b, 1, none⟩ v1).setCell ⟨b, 2, none⟩ v2).setCell ⟨b, 3, none⟩ v3).setCell ⟨b, 4, none⟩ v4).setCell ⟨b, 5, none⟩ v5).setCell ⟨b, 6, none⟩ v6).setCell ⟨b, 7, none⟩ v7).setCell ⟨b, 8, none⟩ v8).drew := (set9_below _ _ _ _ _ _ _ _ _ h hb).drew
set_option maxHeartbeats 2000000 in
set_option maxRecDepth 100000 in
theorem named_any (a : Chore) (w : World) : Calls Try.prog 77 #[choreVal a] w (NamesOut (namedP a) w) := by
  obtain ⟨W0, hW0⟩ : ∃ W0, W0 = (w.alloc (.cells (choreCells a) 64)).alloc (.cells #[.int .i64 0, .int .i64 0, .int .i64 0, .string ⟨#[]⟩, .string ⟨#[]⟩, .int .i64 0, .int .i64 0, .int .i64 0, .int .i64 0] 64) := ⟨_, rfl⟩
  have hb0 : Below w.heap.size w W0 := by rw [hW0]; exact ((Below.refl _ w).alloc (Nat.le_refl _) _).alloc (by simp) _
  have hx0 : W0.heap[w.heap.size]? = some (.cells (choreCells a) 64 (0, 0)) := by rw [hW0]; exact heap_old _ _ _ _ (heap_new _ _ _ rfl)
  have hx1 : W0.heap[w.heap.size + 1]? = some (.cells #[.int .i64 0, .int .i64 0, .int .i64 0, .string ⟨#[]⟩, .string ⟨#[]⟩, .int .i64 0, .int .i64 0, .int .i64 0, .int .i64 0] 64 (0, 0)) := by rw [hW0]; exact heap_new _ _ _ (by simp)
  obtain ⟨c0, c1, c2, c3, c4, c5, c6, c7, c8⟩ := nine_cells2 hx0
  obtain ⟨d0, d1, d2, d3, d4, d5, d6, d7, d8⟩ := nine_cells2 hx1
  have hfz : ∀ j, W0.frozen? ⟨w.heap.size + 1, j, none⟩ = false := fun j => frozen_of_row W0 _ j _ _ hx1
  have f0 := hfz 0
  have f1 := hfz 1
  have f2 := hfz 2
  have f3 := hfz 3
  have f4 := hfz 4
  have f5 := hfz 5
  have f6 := hfz 6
  have f7 := hfz 7
  have f8 := hfz 8
  clear hfz
  replace hb0 := Lib.hid hb0
  replace hx0 := Lib.hid hx0
  replace hx1 := Lib.hid hx1
  go_enter Try.func77, Try.ntmps77
  go_upto_region 1 with fail
  rw [← hW0]
  replace hW0 := Lib.hid hW0
  go_upto_region 2 with fail
  obtain ⟨W1, hW1⟩ : ∃ W1, W1 = W0.alloc (.cells #[.int .i64 a.kind, .int .i64 0, .int .i64 0, .string ⟨#[]⟩, .string ⟨#[]⟩, .int .i64 0, .int .i64 0, .int .i64 0, .int .i64 0] 64) := ⟨_, rfl⟩
  obtain ⟨bx, hbx⟩ : ∃ bx, bx = W0.heap.size := ⟨_, rfl⟩
  rw [← hW1, ← hbx]
  have hb1 : Below W0.heap.size W0 W1 := by rw [hW1]; exact (Below.refl _ W0).alloc (Nat.le_refl _) _
  have hx2 : W1.heap[bx]? = some (.cells #[.int .i64 a.kind, .int .i64 0, .int .i64 0, .string ⟨#[]⟩, .string ⟨#[]⟩, .int .i64 0, .int .i64 0, .int .i64 0, .int .i64 0] 64 (0, 0)) := by rw [hW1, hbx]; exact heap_new _ _ _ rfl
  have hl1 := (Array.getElem?_eq_some_iff.1 hx1.out).1
  have hx0' := (hb1.block _ (by omega)).trans hx0.out
  have hx1' := (hb1.block _ hl1).trans hx1.out
  have hne1 : bx ≠ w.heap.size + 1 := by omega
  have hne0 : bx ≠ w.heap.size := by omega
  have hbw : Hid (Below w.heap.size w W1) := hb0.out.trans (hb1.mono hb0.out.size)
  have hbxw : Hid (w.heap.size ≤ bx) := by unfold Hid; omega
  clear c0 c1 c2 c3 c4 c5 c6 c7 c8 d0 d1 d2 d3 d4 d5 d6 d7 d8 f0 f1 f2 f3 f4 f5 f6 f7 f8 hb1 hl1 hW1
  replace hbx := Lib.hid hbx
  obtain ⟨c0, c1, c2, c3, c4, c5, c6, c7, c8⟩ := nine_cells2 hx0'
  obtain ⟨d0, d1, d2, d3, d4, d5, d6, d7, d8⟩ := nine_cells2 hx1'
  obtain ⟨e0, e1, e2, e3, e4, e5, e6, e7, e8⟩ := nine_cells2 hx2
  have hfz : ∀ j, W1.frozen? ⟨w.heap.size + 1, j, none⟩ = false := fun j => frozen_of_row W1 _ j _ _ hx1'
  have f0 := hfz 0
  have f1 := hfz 1
  have f2 := hfz 2
  have f3 := hfz 3
  have f4 := hfz 4
  have f5 := hfz 5
  have f6 := hfz 6
  have f7 := hfz 7
  have f8 := hfz 8
  clear hfz
  have hfz : ∀ j, W1.frozen? ⟨bx, j, none⟩ = false := fun j => frozen_of_row W1 _ j _ _ hx2
  have g0 := hfz 0
  have g1 := hfz 1
  have g2 := hfz 2
  have g3 := hfz 3
  have g4 := hfz 4
  have g5 := hfz 5
  have g6 := hfz 6
  have g7 := hfz 7
  have g8 := hfz 8
  clear hfz
  replace hx0' := Lib.hid hx0'
  replace hx1' := Lib.hid hx1'
  replace hx2 := Lib.hid hx2
  have hkeep : Hid (∀ (V : World) (j : Nat) (v : Value), V.heap[w.heap.size]? = some (.cells (choreCells a) 64 (0, 0)) → (V.setCell ⟨bx, j, none⟩ v).heap[w.heap.size]? = some (.cells (choreCells a) 64 (0, 0))) := fun V j v hV => (Below.heap_setCell _ _ _ _ (Ne.symm hne0)).trans hV
  have hkeep2 : Hid (∀ (V : World) (j j' : Nat) (v v' : Value), V.heap[w.heap.size]? = some (.cells (choreCells a) 64 (0, 0)) → ((V.setCell ⟨bx, j, none⟩ v).setCell ⟨bx, j', none⟩ v').heap[w.heap.size]? = some (.cells (choreCells a) 64 (0, 0))) := fun V j j' v v' hV => hkeep.out _ j' v' (hkeep.out V j v hV)
  obtain ⟨k, p, l, nm, ot, d, pe, r⟩ := a
  simp only at *
  by_cases k2' : k = 2
  · subst k2'
    go_wp2_with fail
    refine wp_region_tree (fun W => W.heap[w.heap.size]? = some (.cells (choreCells _) 64 (0, 0))) (.pure 0 (.read 1 (.pure 2 (.read 3 (.pure 4 (.read 5 (.pure 6 (.one 7 (.pure 8 (.one 9 (.pure 10 (.one 11 .done)))))))))))) [] (by kernel_rfl) (by kernel_rfl) hx0'.out ?_
    refine wpTree_pure (v := ?_) rfl (by rfl) ?_ (fun _ _ _ h => h) ?_
    rotate_left
    focus (intro w'; (try simp only [List.getElem_toArray, List.getElem_cons_zero, List.getElem_cons_succ]); go_simp; try with_reducible rfl)
    simp only [List.getElem_toArray, List.getElem_cons_zero, List.getElem_cons_succ, Act.put, List.setIfInBounds_toArray, List.set_cons_zero, List.set_cons_succ]
    refine wpTree_take (v := ?_) rfl (by rfl) ?_ (fun _ _ _ h => h) ?_
    rotate_left
    focus (intro w' hSw; obtain ⟨k0, k1, k2, k3, k4, k5, k6, k7, k8⟩ := nine_cells2 hSw; clear hSw; (try simp only [List.getElem_toArray, List.getElem_cons_zero, List.getElem_cons_succ]); go_simp; try with_reducible rfl)
    simp only [List.getElem_toArray, List.getElem_cons_zero, List.getElem_cons_succ, Act.put, List.setIfInBounds_toArray, List.set_cons_zero, List.set_cons_succ]
    refine wpTree_pure (v := ?_) rfl (by rfl) ?_ (fun _ _ _ h => h) ?_
    rotate_left
    focus (intro w'; (try simp only [List.getElem_toArray, List.getElem_cons_zero, List.getElem_cons_succ]); go_simp; try with_reducible rfl)
    simp only [List.getElem_toArray, List.getElem_cons_zero, List.getElem_cons_succ, Act.put, List.setIfInBounds_toArray, List.set_cons_zero, List.set_cons_succ]
    refine wpTree_take (v := ?_) rfl (by rfl) ?_ (fun _ _ _ h => h) ?_
    rotate_left
    focus (intro w' hSw; obtain ⟨k0, k1, k2, k3, k4, k5, k6, k7, k8⟩ := nine_cells2 hSw; clear hSw; (try simp only [List.getElem_toArray, List.getElem_cons_zero, List.getElem_cons_succ]); go_simp; try with_reducible rfl)
    simp only [List.getElem_toArray, List.getElem_cons_zero, List.getElem_cons_succ, Act.put, List.setIfInBounds_toArray, List.set_cons_zero, List.set_cons_succ]
    refine wpTree_pure (v := ?_) rfl (by rfl) ?_ (fun _ _ _ h => h) ?_
    rotate_left
    focus (intro w'; (try simp only [List.getElem_toArray, List.getElem_cons_zero, List.getElem_cons_succ]); go_simp; try with_reducible rfl)
    simp only [List.getElem_toArray, List.getElem_cons_zero, List.getElem_cons_succ, Act.put, List.setIfInBounds_toArray, List.set_cons_zero, List.set_cons_succ]
    refine wpTree_take (v := ?_) rfl (by rfl) ?_ (fun _ _ _ h => h) ?_
    rotate_left
    focus (intro w' hSw; obtain ⟨k0, k1, k2, k3, k4, k5, k6, k7, k8⟩ := nine_cells2 hSw; clear hSw; (try simp only [List.getElem_toArray, List.getElem_cons_zero, List.getElem_cons_succ]); go_simp; try with_reducible rfl)
    simp only [List.getElem_toArray, List.getElem_cons_zero, List.getElem_cons_succ, Act.put, List.setIfInBounds_toArray, List.set_cons_zero, List.set_cons_succ]
    refine wpTree_pure (v := ?_) rfl (by rfl) ?_ (fun _ _ _ h => h) ?_
    rotate_left
    focus (intro w'; (try simp only [List.getElem_toArray, List.getElem_cons_zero, List.getElem_cons_succ]); go_simp; try with_reducible rfl)
    simp only [List.getElem_toArray, List.getElem_cons_zero, List.getElem_cons_succ, Act.put, List.setIfInBounds_toArray, List.set_cons_zero, List.set_cons_succ]
    refine wpTree_do rfl (by rfl) ?_
    (try simp only [List.getElem_toArray, List.getElem_cons_zero, List.getElem_cons_succ])
    go_simp
    refine ⟨fun hS => (by first | exact hkeep.out _ _ _ hS | exact hkeep2.out _ _ _ _ _ hS), ?_⟩
    refine wpTree_pure (v := ?_) rfl (by rfl) ?_ (fun _ _ _ h => h) ?_
    rotate_left
    focus (intro w'; (try simp only [List.getElem_toArray, List.getElem_cons_zero, List.getElem_cons_succ]); go_simp; try with_reducible rfl)
    simp only [List.getElem_toArray, List.getElem_cons_zero, List.getElem_cons_succ, Act.put, List.setIfInBounds_toArray, List.set_cons_zero, List.set_cons_succ]
    refine wpTree_do rfl (by rfl) ?_
    (try simp only [List.getElem_toArray, List.getElem_cons_zero, List.getElem_cons_succ])
    go_simp
    refine ⟨fun hS => (by first | exact hkeep.out _ _ _ hS | exact hkeep2.out _ _ _ _ _ hS), ?_⟩
    refine wpTree_pure (v := ?_) rfl (by rfl) ?_ (fun _ _ _ h => h) ?_
    rotate_left
    focus (intro w'; (try simp only [List.getElem_toArray, List.getElem_cons_zero, List.getElem_cons_succ]); go_simp; try with_reducible rfl)
    simp only [List.getElem_toArray, List.getElem_cons_zero, List.getElem_cons_succ, Act.put, List.setIfInBounds_toArray, List.set_cons_zero, List.set_cons_succ]
    refine wpTree_do rfl (by rfl) ?_
    (try simp only [List.getElem_toArray, List.getElem_cons_zero, List.getElem_cons_succ])
    go_simp
    refine ⟨fun hS => (by first | exact hkeep.out _ _ _ hS | exact hkeep2.out _ _ _ _ _ hS), ?_⟩
    unfold wpTree
    go_wp2_with fail
    refine bodyPost_ret (results_cell_row rfl _ _ (w.heap.size + 1) 64 _ (0, 0) _ rfl (set9d _ _ _ _ _ _ _ _ _ ((Below.heap_setCell _ _ _ _ (Ne.symm hne1)).trans ((Below.heap_setCell _ _ _ _ (Ne.symm hne1)).trans ((Below.heap_setCell _ _ _ _ (Ne.symm hne1)).trans hx1'.out)))) Try.underlying64 rfl (by kernel_rfl)) rfl ?_
    exact ⟨rfl, set9d_below _ _ _ _ _ _ _ _ _ ((Below.setCell ((Below.setCell ((Below.setCell (hbw.out) (p := ⟨bx, _, none⟩) hbxw.out _)) (p := ⟨bx, _, none⟩) hbxw.out _)) (p := ⟨bx, _, none⟩) hbxw.out _)) (Nat.le_succ _)⟩
  by_cases k3' : k = 3
  · subst k3'
    go_wp2_with fail
    refine wp_region_tree (fun W => W.heap[w.heap.size]? = some (.cells (choreCells _) 64 (0, 0))) (.pure 0 (.read 1 (.pure 2 (.read 3 (.pure 4 (.read 5 (.pure 6 (.one 7 (.pure 8 (.one 9 (.pure 10 (.one 11 .done)))))))))))) [] (by kernel_rfl) (by kernel_rfl) hx0'.out ?_
    refine wpTree_pure (v := ?_) rfl (by rfl) ?_ (fun _ _ _ h => h) ?_
    rotate_left
    focus (intro w'; (try simp only [List.getElem_toArray, List.getElem_cons_zero, List.getElem_cons_succ]); go_simp; try with_reducible rfl)
    simp only [List.getElem_toArray, List.getElem_cons_zero, List.getElem_cons_succ, Act.put, List.setIfInBounds_toArray, List.set_cons_zero, List.set_cons_succ]
    refine wpTree_take (v := ?_) rfl (by rfl) ?_ (fun _ _ _ h => h) ?_
    rotate_left
    focus (intro w' hSw; obtain ⟨k0, k1, k2, k3, k4, k5, k6, k7, k8⟩ := nine_cells2 hSw; clear hSw; (try simp only [List.getElem_toArray, List.getElem_cons_zero, List.getElem_cons_succ]); go_simp; try with_reducible rfl)
    simp only [List.getElem_toArray, List.getElem_cons_zero, List.getElem_cons_succ, Act.put, List.setIfInBounds_toArray, List.set_cons_zero, List.set_cons_succ]
    refine wpTree_pure (v := ?_) rfl (by rfl) ?_ (fun _ _ _ h => h) ?_
    rotate_left
    focus (intro w'; (try simp only [List.getElem_toArray, List.getElem_cons_zero, List.getElem_cons_succ]); go_simp; try with_reducible rfl)
    simp only [List.getElem_toArray, List.getElem_cons_zero, List.getElem_cons_succ, Act.put, List.setIfInBounds_toArray, List.set_cons_zero, List.set_cons_succ]
    refine wpTree_take (v := ?_) rfl (by rfl) ?_ (fun _ _ _ h => h) ?_
    rotate_left
    focus (intro w' hSw; obtain ⟨k0, k1, k2, k3, k4, k5, k6, k7, k8⟩ := nine_cells2 hSw; clear hSw; (try simp only [List.getElem_toArray, List.getElem_cons_zero, List.getElem_cons_succ]); go_simp; try with_reducible rfl)
    simp only [List.getElem_toArray, List.getElem_cons_zero, List.getElem_cons_succ, Act.put, List.setIfInBounds_toArray, List.set_cons_zero, List.set_cons_succ]
    refine wpTree_pure (v := ?_) rfl (by rfl) ?_ (fun _ _ _ h => h) ?_
    rotate_left
    focus (intro w'; (try simp only [List.getElem_toArray, List.getElem_cons_zero, List.getElem_cons_succ]); go_simp; try with_reducible rfl)
    simp only [List.getElem_toArray, List.getElem_cons_zero, List.getElem_cons_succ, Act.put, List.setIfInBounds_toArray, List.set_cons_zero, List.set_cons_succ]
    refine wpTree_take (v := ?_) rfl (by rfl) ?_ (fun _ _ _ h => h) ?_
    rotate_left
    focus (intro w' hSw; obtain ⟨k0, k1, k2, k3, k4, k5, k6, k7, k8⟩ := nine_cells2 hSw; clear hSw; (try simp only [List.getElem_toArray, List.getElem_cons_zero, List.getElem_cons_succ]); go_simp; try with_reducible rfl)
    simp only [List.getElem_toArray, List.getElem_cons_zero, List.getElem_cons_succ, Act.put, List.setIfInBounds_toArray, List.set_cons_zero, List.set_cons_succ]
    refine wpTree_pure (v := ?_) rfl (by rfl) ?_ (fun _ _ _ h => h) ?_
    rotate_left
    focus (intro w'; (try simp only [List.getElem_toArray, List.getElem_cons_zero, List.getElem_cons_succ]); go_simp; try with_reducible rfl)
    simp only [List.getElem_toArray, List.getElem_cons_zero, List.getElem_cons_succ, Act.put, List.setIfInBounds_toArray, List.set_cons_zero, List.set_cons_succ]
    refine wpTree_do rfl (by rfl) ?_
    (try simp only [List.getElem_toArray, List.getElem_cons_zero, List.getElem_cons_succ])
    go_simp
    refine ⟨fun hS => (by first | exact hkeep.out _ _ _ hS | exact hkeep2.out _ _ _ _ _ hS), ?_⟩
    refine wpTree_pure (v := ?_) rfl (by rfl) ?_ (fun _ _ _ h => h) ?_
    rotate_left
    focus (intro w'; (try simp only [List.getElem_toArray, List.getElem_cons_zero, List.getElem_cons_succ]); go_simp; try with_reducible rfl)
    simp only [List.getElem_toArray, List.getElem_cons_zero, List.getElem_cons_succ, Act.put, List.setIfInBounds_toArray, List.set_cons_zero, List.set_cons_succ]
    refine wpTree_do rfl (by rfl) ?_
    (try simp only [List.getElem_toArray, List.getElem_cons_zero, List.getElem_cons_succ])
    go_simp
    refine ⟨fun hS => (by first | exact hkeep.out _ _ _ hS | exact hkeep2.out _ _ _ _ _ hS), ?_⟩
    refine wpTree_pure (v := ?_) rfl (by rfl) ?_ (fun _ _ _ h => h) ?_
    rotate_left
    focus (intro w'; (try simp only [List.getElem_toArray, List.getElem_cons_zero, List.getElem_cons_succ]); go_simp; try with_reducible rfl)
    simp only [List.getElem_toArray, List.getElem_cons_zero, List.getElem_cons_succ, Act.put, List.setIfInBounds_toArray, List.set_cons_zero, List.set_cons_succ]
    refine wpTree_do rfl (by rfl) ?_
    (try simp only [List.getElem_toArray, List.getElem_cons_zero, List.getElem_cons_succ])
    go_simp
    refine ⟨fun hS => (by first | exact hkeep.out _ _ _ hS | exact hkeep2.out _ _ _ _ _ hS), ?_⟩
    unfold wpTree
    go_wp2_with fail
    refine bodyPost_ret (results_cell_row rfl _ _ (w.heap.size + 1) 64 _ (0, 0) _ rfl (set9d _ _ _ _ _ _ _ _ _ ((Below.heap_setCell _ _ _ _ (Ne.symm hne1)).trans ((Below.heap_setCell _ _ _ _ (Ne.symm hne1)).trans ((Below.heap_setCell _ _ _ _ (Ne.symm hne1)).trans ((Below.heap_setCell _ _ _ _ (Ne.symm hne1)).trans hx1'.out))))) Try.underlying64 rfl (by kernel_rfl)) rfl ?_
    exact ⟨rfl, set9d_below _ _ _ _ _ _ _ _ _ ((Below.setCell ((Below.setCell ((Below.setCell ((Below.setCell (hbw.out) (p := ⟨bx, _, none⟩) hbxw.out _)) (p := ⟨bx, _, none⟩) hbxw.out _)) (p := ⟨bx, _, none⟩) hbxw.out _)) (p := ⟨bx, _, none⟩) hbxw.out _)) (Nat.le_succ _)⟩
  by_cases k4' : k = 4
  · subst k4'
    go_wp2_with fail
    refine wp_region_tree (fun W => W.heap[w.heap.size]? = some (.cells (choreCells _) 64 (0, 0))) (.pure 0 (.read 1 (.pure 2 (.read 3 (.pure 4 (.one 5 (.pure 6 (.one 7 .done)))))))) [] (by kernel_rfl) (by kernel_rfl) hx0'.out ?_
    refine wpTree_pure (v := ?_) rfl (by rfl) ?_ (fun _ _ _ h => h) ?_
    rotate_left
    focus (intro w'; (try simp only [List.getElem_toArray, List.getElem_cons_zero, List.getElem_cons_succ]); go_simp; try with_reducible rfl)
    simp only [List.getElem_toArray, List.getElem_cons_zero, List.getElem_cons_succ, Act.put, List.setIfInBounds_toArray, List.set_cons_zero, List.set_cons_succ]
    refine wpTree_take (v := ?_) rfl (by rfl) ?_ (fun _ _ _ h => h) ?_
    rotate_left
    focus (intro w' hSw; obtain ⟨k0, k1, k2, k3, k4, k5, k6, k7, k8⟩ := nine_cells2 hSw; clear hSw; (try simp only [List.getElem_toArray, List.getElem_cons_zero, List.getElem_cons_succ]); go_simp; try with_reducible rfl)
    simp only [List.getElem_toArray, List.getElem_cons_zero, List.getElem_cons_succ, Act.put, List.setIfInBounds_toArray, List.set_cons_zero, List.set_cons_succ]
    refine wpTree_pure (v := ?_) rfl (by rfl) ?_ (fun _ _ _ h => h) ?_
    rotate_left
    focus (intro w'; (try simp only [List.getElem_toArray, List.getElem_cons_zero, List.getElem_cons_succ]); go_simp; try with_reducible rfl)
    simp only [List.getElem_toArray, List.getElem_cons_zero, List.getElem_cons_succ, Act.put, List.setIfInBounds_toArray, List.set_cons_zero, List.set_cons_succ]
    refine wpTree_take (v := ?_) rfl (by rfl) ?_ (fun _ _ _ h => h) ?_
    rotate_left
    focus (intro w' hSw; obtain ⟨k0, k1, k2, k3, k4, k5, k6, k7, k8⟩ := nine_cells2 hSw; clear hSw; (try simp only [List.getElem_toArray, List.getElem_cons_zero, List.getElem_cons_succ]); go_simp; try with_reducible rfl)
    simp only [List.getElem_toArray, List.getElem_cons_zero, List.getElem_cons_succ, Act.put, List.setIfInBounds_toArray, List.set_cons_zero, List.set_cons_succ]
    refine wpTree_pure (v := ?_) rfl (by rfl) ?_ (fun _ _ _ h => h) ?_
    rotate_left
    focus (intro w'; (try simp only [List.getElem_toArray, List.getElem_cons_zero, List.getElem_cons_succ]); go_simp; try with_reducible rfl)
    simp only [List.getElem_toArray, List.getElem_cons_zero, List.getElem_cons_succ, Act.put, List.setIfInBounds_toArray, List.set_cons_zero, List.set_cons_succ]
    refine wpTree_do rfl (by rfl) ?_
    (try simp only [List.getElem_toArray, List.getElem_cons_zero, List.getElem_cons_succ])
    go_simp
    refine ⟨fun hS => (by first | exact hkeep.out _ _ _ hS | exact hkeep2.out _ _ _ _ _ hS), ?_⟩
    refine wpTree_pure (v := ?_) rfl (by rfl) ?_ (fun _ _ _ h => h) ?_
    rotate_left
    focus (intro w'; (try simp only [List.getElem_toArray, List.getElem_cons_zero, List.getElem_cons_succ]); go_simp; try with_reducible rfl)
    simp only [List.getElem_toArray, List.getElem_cons_zero, List.getElem_cons_succ, Act.put, List.setIfInBounds_toArray, List.set_cons_zero, List.set_cons_succ]
    refine wpTree_do rfl (by rfl) ?_
    (try simp only [List.getElem_toArray, List.getElem_cons_zero, List.getElem_cons_succ])
    go_simp
    refine ⟨fun hS => (by first | exact hkeep.out _ _ _ hS | exact hkeep2.out _ _ _ _ _ hS), ?_⟩
    unfold wpTree
    go_wp2_with fail
    refine bodyPost_ret (results_cell_row rfl _ _ (w.heap.size + 1) 64 _ (0, 0) _ rfl (set9d _ _ _ _ _ _ _ _ _ ((Below.heap_setCell _ _ _ _ (Ne.symm hne1)).trans ((Below.heap_setCell _ _ _ _ (Ne.symm hne1)).trans hx1'.out))) Try.underlying64 rfl (by kernel_rfl)) rfl ?_
    exact ⟨rfl, set9d_below _ _ _ _ _ _ _ _ _ ((Below.setCell ((Below.setCell (hbw.out) (p := ⟨bx, _, none⟩) hbxw.out _)) (p := ⟨bx, _, none⟩) hbxw.out _)) (Nat.le_succ _)⟩
  by_cases k5' : k = 5
  · subst k5'
    go_wp2_with fail
    refine wp_region_tree (fun W => W.heap[w.heap.size]? = some (.cells (choreCells _) 64 (0, 0))) (.pure 0 (.read 1 (.pure 2 (.read 3 (.pure 4 (.one 5 (.pure 6 (.one 7 .done)))))))) [] (by kernel_rfl) (by kernel_rfl) hx0'.out ?_
    refine wpTree_pure (v := ?_) rfl (by rfl) ?_ (fun _ _ _ h => h) ?_
    rotate_left
    focus (intro w'; (try simp only [List.getElem_toArray, List.getElem_cons_zero, List.getElem_cons_succ]); go_simp; try with_reducible rfl)
    simp only [List.getElem_toArray, List.getElem_cons_zero, List.getElem_cons_succ, Act.put, List.setIfInBounds_toArray, List.set_cons_zero, List.set_cons_succ]
    refine wpTree_take (v := ?_) rfl (by rfl) ?_ (fun _ _ _ h => h) ?_
    rotate_left
    focus (intro w' hSw; obtain ⟨k0, k1, k2, k3, k4, k5, k6, k7, k8⟩ := nine_cells2 hSw; clear hSw; (try simp only [List.getElem_toArray, List.getElem_cons_zero, List.getElem_cons_succ]); go_simp; try with_reducible rfl)
    simp only [List.getElem_toArray, List.getElem_cons_zero, List.getElem_cons_succ, Act.put, List.setIfInBounds_toArray, List.set_cons_zero, List.set_cons_succ]
    refine wpTree_pure (v := ?_) rfl (by rfl) ?_ (fun _ _ _ h => h) ?_
    rotate_left
    focus (intro w'; (try simp only [List.getElem_toArray, List.getElem_cons_zero, List.getElem_cons_succ]); go_simp; try with_reducible rfl)
    simp only [List.getElem_toArray, List.getElem_cons_zero, List.getElem_cons_succ, Act.put, List.setIfInBounds_toArray, List.set_cons_zero, List.set_cons_succ]
    refine wpTree_take (v := ?_) rfl (by rfl) ?_ (fun _ _ _ h => h) ?_
    rotate_left
    focus (intro w' hSw; obtain ⟨k0, k1, k2, k3, k4, k5, k6, k7, k8⟩ := nine_cells2 hSw; clear hSw; (try simp only [List.getElem_toArray, List.getElem_cons_zero, List.getElem_cons_succ]); go_simp; try with_reducible rfl)
    simp only [List.getElem_toArray, List.getElem_cons_zero, List.getElem_cons_succ, Act.put, List.setIfInBounds_toArray, List.set_cons_zero, List.set_cons_succ]
    refine wpTree_pure (v := ?_) rfl (by rfl) ?_ (fun _ _ _ h => h) ?_
    rotate_left
    focus (intro w'; (try simp only [List.getElem_toArray, List.getElem_cons_zero, List.getElem_cons_succ]); go_simp; try with_reducible rfl)
    simp only [List.getElem_toArray, List.getElem_cons_zero, List.getElem_cons_succ, Act.put, List.setIfInBounds_toArray, List.set_cons_zero, List.set_cons_succ]
    refine wpTree_do rfl (by rfl) ?_
    (try simp only [List.getElem_toArray, List.getElem_cons_zero, List.getElem_cons_succ])
    go_simp
    refine ⟨fun hS => (by first | exact hkeep.out _ _ _ hS | exact hkeep2.out _ _ _ _ _ hS), ?_⟩
    refine wpTree_pure (v := ?_) rfl (by rfl) ?_ (fun _ _ _ h => h) ?_
    rotate_left
    focus (intro w'; (try simp only [List.getElem_toArray, List.getElem_cons_zero, List.getElem_cons_succ]); go_simp; try with_reducible rfl)
    simp only [List.getElem_toArray, List.getElem_cons_zero, List.getElem_cons_succ, Act.put, List.setIfInBounds_toArray, List.set_cons_zero, List.set_cons_succ]
    refine wpTree_do rfl (by rfl) ?_
    (try simp only [List.getElem_toArray, List.getElem_cons_zero, List.getElem_cons_succ])
    go_simp
    refine ⟨fun hS => (by first | exact hkeep.out _ _ _ hS | exact hkeep2.out _ _ _ _ _ hS), ?_⟩
    unfold wpTree
    go_wp2_with fail
    refine bodyPost_ret (results_cell_row rfl _ _ (w.heap.size + 1) 64 _ (0, 0) _ rfl (set9d _ _ _ _ _ _ _ _ _ ((Below.heap_setCell _ _ _ _ (Ne.symm hne1)).trans ((Below.heap_setCell _ _ _ _ (Ne.symm hne1)).trans hx1'.out))) Try.underlying64 rfl (by kernel_rfl)) rfl ?_
    exact ⟨rfl, set9d_below _ _ _ _ _ _ _ _ _ ((Below.setCell ((Below.setCell (hbw.out) (p := ⟨bx, _, none⟩) hbxw.out _)) (p := ⟨bx, _, none⟩) hbxw.out _)) (Nat.le_succ _)⟩
  by_cases k6' : k = 6
  · subst k6'
    go_wp2_with fail
    refine wp_region_tree (fun W => W.heap[w.heap.size]? = some (.cells (choreCells _) 64 (0, 0))) (.pure 0 (.read 1 (.pure 2 (.read 3 (.pure 4 (.read 5 (.pure 6 (.one 7 (.pure 8 (.one 9 (.pure 10 (.one 11 .done)))))))))))) [] (by kernel_rfl) (by kernel_rfl) hx0'.out ?_
    refine wpTree_pure (v := ?_) rfl (by rfl) ?_ (fun _ _ _ h => h) ?_
    rotate_left
    focus (intro w'; (try simp only [List.getElem_toArray, List.getElem_cons_zero, List.getElem_cons_succ]); go_simp; try with_reducible rfl)
    simp only [List.getElem_toArray, List.getElem_cons_zero, List.getElem_cons_succ, Act.put, List.setIfInBounds_toArray, List.set_cons_zero, List.set_cons_succ]
    refine wpTree_take (v := ?_) rfl (by rfl) ?_ (fun _ _ _ h => h) ?_
    rotate_left
    focus (intro w' hSw; obtain ⟨k0, k1, k2, k3, k4, k5, k6, k7, k8⟩ := nine_cells2 hSw; clear hSw; (try simp only [List.getElem_toArray, List.getElem_cons_zero, List.getElem_cons_succ]); go_simp; try with_reducible rfl)
    simp only [List.getElem_toArray, List.getElem_cons_zero, List.getElem_cons_succ, Act.put, List.setIfInBounds_toArray, List.set_cons_zero, List.set_cons_succ]
    refine wpTree_pure (v := ?_) rfl (by rfl) ?_ (fun _ _ _ h => h) ?_
    rotate_left
    focus (intro w'; (try simp only [List.getElem_toArray, List.getElem_cons_zero, List.getElem_cons_succ]); go_simp; try with_reducible rfl)
    simp only [List.getElem_toArray, List.getElem_cons_zero, List.getElem_cons_succ, Act.put, List.setIfInBounds_toArray, List.set_cons_zero, List.set_cons_succ]
    refine wpTree_take (v := ?_) rfl (by rfl) ?_ (fun _ _ _ h => h) ?_
    rotate_left
    focus (intro w' hSw; obtain ⟨k0, k1, k2, k3, k4, k5, k6, k7, k8⟩ := nine_cells2 hSw; clear hSw; (try simp only [List.getElem_toArray, List.getElem_cons_zero, List.getElem_cons_succ]); go_simp; try with_reducible rfl)
    simp only [List.getElem_toArray, List.getElem_cons_zero, List.getElem_cons_succ, Act.put, List.setIfInBounds_toArray, List.set_cons_zero, List.set_cons_succ]
    refine wpTree_pure (v := ?_) rfl (by rfl) ?_ (fun _ _ _ h => h) ?_
    rotate_left
    focus (intro w'; (try simp only [List.getElem_toArray, List.getElem_cons_zero, List.getElem_cons_succ]); go_simp; try with_reducible rfl)
    simp only [List.getElem_toArray, List.getElem_cons_zero, List.getElem_cons_succ, Act.put, List.setIfInBounds_toArray, List.set_cons_zero, List.set_cons_succ]
    refine wpTree_take (v := ?_) rfl (by rfl) ?_ (fun _ _ _ h => h) ?_
    rotate_left
    focus (intro w' hSw; obtain ⟨k0, k1, k2, k3, k4, k5, k6, k7, k8⟩ := nine_cells2 hSw; clear hSw; (try simp only [List.getElem_toArray, List.getElem_cons_zero, List.getElem_cons_succ]); go_simp; try with_reducible rfl)
    simp only [List.getElem_toArray, List.getElem_cons_zero, List.getElem_cons_succ, Act.put, List.setIfInBounds_toArray, List.set_cons_zero, List.set_cons_succ]
    refine wpTree_pure (v := ?_) rfl (by rfl) ?_ (fun _ _ _ h => h) ?_
    rotate_left
    focus (intro w'; (try simp only [List.getElem_toArray, List.getElem_cons_zero, List.getElem_cons_succ]); go_simp; try with_reducible rfl)
    simp only [List.getElem_toArray, List.getElem_cons_zero, List.getElem_cons_succ, Act.put, List.setIfInBounds_toArray, List.set_cons_zero, List.set_cons_succ]
    refine wpTree_do rfl (by rfl) ?_
    (try simp only [List.getElem_toArray, List.getElem_cons_zero, List.getElem_cons_succ])
    go_simp
    refine ⟨fun hS => (by first | exact hkeep.out _ _ _ hS | exact hkeep2.out _ _ _ _ _ hS), ?_⟩
    refine wpTree_pure (v := ?_) rfl (by rfl) ?_ (fun _ _ _ h => h) ?_
    rotate_left
    focus (intro w'; (try simp only [List.getElem_toArray, List.getElem_cons_zero, List.getElem_cons_succ]); go_simp; try with_reducible rfl)
    simp only [List.getElem_toArray, List.getElem_cons_zero, List.getElem_cons_succ, Act.put, List.setIfInBounds_toArray, List.set_cons_zero, List.set_cons_succ]
    refine wpTree_do rfl (by rfl) ?_
    (try simp only [List.getElem_toArray, List.getElem_cons_zero, List.getElem_cons_succ])
    go_simp
    refine ⟨fun hS => (by first | exact hkeep.out _ _ _ hS | exact hkeep2.out _ _ _ _ _ hS), ?_⟩
    refine wpTree_pure (v := ?_) rfl (by rfl) ?_ (fun _ _ _ h => h) ?_
    rotate_left
    focus (intro w'; (try simp only [List.getElem_toArray, List.getElem_cons_zero, List.getElem_cons_succ]); go_simp; try with_reducible rfl)
    simp only [List.getElem_toArray, List.getElem_cons_zero, List.getElem_cons_succ, Act.put, List.setIfInBounds_toArray, List.set_cons_zero, List.set_cons_succ]
    refine wpTree_do rfl (by rfl) ?_
    (try simp only [List.getElem_toArray, List.getElem_cons_zero, List.getElem_cons_succ])
    go_simp
    refine ⟨fun hS => (by first | exact hkeep.out _ _ _ hS | exact hkeep2.out _ _ _ _ _ hS), ?_⟩
    unfold wpTree
    go_wp2_with fail
    refine bodyPost_ret (results_cell_row rfl _ _ (w.heap.size + 1) 64 _ (0, 0) _ rfl (set9d _ _ _ _ _ _ _ _ _ ((Below.heap_setCell _ _ _ _ (Ne.symm hne1)).trans ((Below.heap_setCell _ _ _ _ (Ne.symm hne1)).trans ((Below.heap_setCell _ _ _ _ (Ne.symm hne1)).trans hx1'.out)))) Try.underlying64 rfl (by kernel_rfl)) rfl ?_
    exact ⟨rfl, set9d_below _ _ _ _ _ _ _ _ _ ((Below.setCell ((Below.setCell ((Below.setCell (hbw.out) (p := ⟨bx, _, none⟩) hbxw.out _)) (p := ⟨bx, _, none⟩) hbxw.out _)) (p := ⟨bx, _, none⟩) hbxw.out _)) (Nat.le_succ _)⟩
  by_cases k7' : k = 7
  · subst k7'
    go_wp2_with fail
    refine wp_region_tree (fun W => W.heap[w.heap.size]? = some (.cells (choreCells _) 64 (0, 0))) (.pure 0 (.read 1 (.pure 2 (.read 3 (.pure 4 (.one 5 (.pure 6 (.one 7 .done)))))))) [] (by kernel_rfl) (by kernel_rfl) hx0'.out ?_
    refine wpTree_pure (v := ?_) rfl (by rfl) ?_ (fun _ _ _ h => h) ?_
    rotate_left
    focus (intro w'; (try simp only [List.getElem_toArray, List.getElem_cons_zero, List.getElem_cons_succ]); go_simp; try with_reducible rfl)
    simp only [List.getElem_toArray, List.getElem_cons_zero, List.getElem_cons_succ, Act.put, List.setIfInBounds_toArray, List.set_cons_zero, List.set_cons_succ]
    refine wpTree_take (v := ?_) rfl (by rfl) ?_ (fun _ _ _ h => h) ?_
    rotate_left
    focus (intro w' hSw; obtain ⟨k0, k1, k2, k3, k4, k5, k6, k7, k8⟩ := nine_cells2 hSw; clear hSw; (try simp only [List.getElem_toArray, List.getElem_cons_zero, List.getElem_cons_succ]); go_simp; try with_reducible rfl)
    simp only [List.getElem_toArray, List.getElem_cons_zero, List.getElem_cons_succ, Act.put, List.setIfInBounds_toArray, List.set_cons_zero, List.set_cons_succ]
    refine wpTree_pure (v := ?_) rfl (by rfl) ?_ (fun _ _ _ h => h) ?_
    rotate_left
    focus (intro w'; (try simp only [List.getElem_toArray, List.getElem_cons_zero, List.getElem_cons_succ]); go_simp; try with_reducible rfl)
    simp only [List.getElem_toArray, List.getElem_cons_zero, List.getElem_cons_succ, Act.put, List.setIfInBounds_toArray, List.set_cons_zero, List.set_cons_succ]
    refine wpTree_take (v := ?_) rfl (by rfl) ?_ (fun _ _ _ h => h) ?_
    rotate_left
    focus (intro w' hSw; obtain ⟨k0, k1, k2, k3, k4, k5, k6, k7, k8⟩ := nine_cells2 hSw; clear hSw; (try simp only [List.getElem_toArray, List.getElem_cons_zero, List.getElem_cons_succ]); go_simp; try with_reducible rfl)
    simp only [List.getElem_toArray, List.getElem_cons_zero, List.getElem_cons_succ, Act.put, List.setIfInBounds_toArray, List.set_cons_zero, List.set_cons_succ]
    refine wpTree_pure (v := ?_) rfl (by rfl) ?_ (fun _ _ _ h => h) ?_
    rotate_left
    focus (intro w'; (try simp only [List.getElem_toArray, List.getElem_cons_zero, List.getElem_cons_succ]); go_simp; try with_reducible rfl)
    simp only [List.getElem_toArray, List.getElem_cons_zero, List.getElem_cons_succ, Act.put, List.setIfInBounds_toArray, List.set_cons_zero, List.set_cons_succ]
    refine wpTree_do rfl (by rfl) ?_
    (try simp only [List.getElem_toArray, List.getElem_cons_zero, List.getElem_cons_succ])
    go_simp
    refine ⟨fun hS => (by first | exact hkeep.out _ _ _ hS | exact hkeep2.out _ _ _ _ _ hS), ?_⟩
    refine wpTree_pure (v := ?_) rfl (by rfl) ?_ (fun _ _ _ h => h) ?_
    rotate_left
    focus (intro w'; (try simp only [List.getElem_toArray, List.getElem_cons_zero, List.getElem_cons_succ]); go_simp; try with_reducible rfl)
    simp only [List.getElem_toArray, List.getElem_cons_zero, List.getElem_cons_succ, Act.put, List.setIfInBounds_toArray, List.set_cons_zero, List.set_cons_succ]
    refine wpTree_do rfl (by rfl) ?_
    (try simp only [List.getElem_toArray, List.getElem_cons_zero, List.getElem_cons_succ])
    go_simp
    refine ⟨fun hS => (by first | exact hkeep.out _ _ _ hS | exact hkeep2.out _ _ _ _ _ hS), ?_⟩
    unfold wpTree
    go_wp2_with fail
    refine bodyPost_ret (results_cell_row rfl _ _ (w.heap.size + 1) 64 _ (0, 0) _ rfl (set9d _ _ _ _ _ _ _ _ _ ((Below.heap_setCell _ _ _ _ (Ne.symm hne1)).trans ((Below.heap_setCell _ _ _ _ (Ne.symm hne1)).trans hx1'.out))) Try.underlying64 rfl (by kernel_rfl)) rfl ?_
    exact ⟨rfl, set9d_below _ _ _ _ _ _ _ _ _ ((Below.setCell ((Below.setCell (hbw.out) (p := ⟨bx, _, none⟩) hbxw.out _)) (p := ⟨bx, _, none⟩) hbxw.out _)) (Nat.le_succ _)⟩
  by_cases k8' : k = 8
  · subst k8'
    go_wp2_with fail
    refine bodyPost_ret (results_cell_row rfl _ _ (w.heap.size + 1) 64 _ (0, 0) _ rfl (set9 _ _ _ _ _ _ _ _ _ ((Below.heap_setCell _ _ _ _ (Ne.symm hne1)).trans hx1'.out)) Try.underlying64 rfl (by kernel_rfl)) rfl ?_
    exact ⟨rfl, set9_below _ _ _ _ _ _ _ _ _ ((Below.setCell (hbw.out) (p := ⟨bx, _, none⟩) hbxw.out _)) (Nat.le_succ _)⟩
  · have q2 : (k == 2) = false := by simpa using k2'
    have q3 : (k == 3) = false := by simpa using k3'
    have q4 : (k == 4) = false := by simpa using k4'
    have q5 : (k == 5) = false := by simpa using k5'
    have q6 : (k == 6) = false := by simpa using k6'
    have q7 : (k == 7) = false := by simpa using k7'
    have q8 : (k == 8) = false := by simpa using k8'
    have hE : Hid (namedP ⟨k, p, l, nm, ot, d, pe, r⟩ = ⟨k, 0, 0, noName, noName, 0, 0, ⟨0, 0⟩⟩) := by
      unfold Hid namedP
      simp only [if_neg k2', if_neg k3', if_neg k4', if_neg k5', if_neg k6', if_neg k7', if_neg k8']
    go_wp2_with fail
    rw [hE.out]
    refine bodyPost_ret (results_cell_row rfl _ _ (w.heap.size + 1) 64 _ (0, 0) _ rfl (set9 _ _ _ _ _ _ _ _ _ hx1'.out) Try.underlying64 rfl (by kernel_rfl)) rfl ?_
    exact ⟨rfl, set9_below _ _ _ _ _ _ _ _ _ (hbw.out) (Nat.le_succ _)⟩
end Go.Proofs.Ytpgkhlpepckfgaa
end
section
namespace Go.Proofs.Ytpgkhlpepckfgaa
open Go.RowKit Go.Lib

set_option maxHeartbeats 4000000 in
set_option maxRecDepth 100000 in
theorem done_dry (B : Nat) (A : Option Addr) (pl : List Plot) (c : Nat) (dry : Int) (s : Store) (a : Chore) (w : World) (h : Rows B none s w) (hB : B ≤ w.heap.size) (hk : a.kind = 3) (hwet : ∀ x ∈ s.heaps, 0 ≤ x.wet.lo ∧ x.wet.lo ≤ x.wet.hi ∧ x.wet.hi ≤ 1000) :
    Calls Try.prog 78 #[.agg #[.slice A pl.length c, .int .i64 dry], storeVal s, choreVal a] w (RefOut B s (if nameIdx a.name s.heaps < 0 then (7, s) else dryP s (nameIdx a.name s.heaps).toNat a) w) := by
  have hq1 : (a.kind == 1) = false := by rw [hk]; rfl
  have hq2 : (a.kind == 2) = false := by rw [hk]; rfl
  have hq3 : (a.kind == 3) = true := by rw [hk]; rfl
  have hq4 : (a.kind == 4) = false := by rw [hk]; rfl
  have hq5 : (a.kind == 5) = false := by rw [hk]; rfl
  have hq6 : (a.kind == 6) = false := by rw [hk]; rfl
  have hq7 : (a.kind == 7) = false := by rw [hk]; rfl
  have hq8 : (a.kind == 8) = false := by rw [hk]; rfl
  replace hk := Lib.hid hk
  obtain ⟨W0, hW0⟩ : ∃ W0, W0 = RXw w A c pl dry a s := ⟨_, rfl⟩
  have hX0 : Hid (RX s B w A c pl dry a s W0) := by rw [hW0]; exact RX.make h hB
  unfold RXw at hW0
  have hat : Hid (Calls Try.prog 70 #[storeVal s, .string a.name] W0 fun e w' => e = .returned (.int .i64 (nameIdx a.name s.heaps)) ∧ Below W0.heap.size W0 w') := at_any s a.name W0 hX0.out.rows.store
  have hrg := nameIdx_range a.name s.heaps
  obtain ⟨i, hi⟩ : ∃ i, i = nameIdx a.name s.heaps := ⟨_, rfl⟩
  rw [← hi] at hat hrg ⊢
  replace hi := Lib.hid hi
  have hfz : Hid (∀ W t, RX s B w A c pl dry a t W → ∀ j, W.frozen? ⟨w.heap.size + 1 + 1 + 1, j, none⟩ = false) := fun W t h j => frozen_of_row W _ j _ _ h.out
  by_cases hneg : i < 0
  · rw [if_pos hneg]
    go_enter Try.func78, Try.ntmps78
    go_upto_region 2 with fail
    rw [← hW0]
    replace hW0 := Lib.hid hW0
    go_at_call 70
    (with_reducible refine hat.out.mono ?_)
    rintro e w1 ⟨rfl, hb1⟩
    have hX1 := Lib.hid (hX0.out.later hb1)
    have hb01 := Lib.hid hb1
    clear hX0 hat hb1
    obtain ⟨k0, k1, k2, k3, k4, k5⟩ := six_cells hX1.out.store
    obtain ⟨c0, c1, c2, c3, c4, c5, c6, c7, c8⟩ := nine_cells2 hX1.out.chore
    obtain ⟨p0, p1⟩ := cells2 hX1.out.farm
    obtain ⟨d0, d1, d2, d3, d4, d5⟩ := cells6 hX1.out.out
    have f0 := hfz.out _ _ hX1.out 0
    have f1 := hfz.out _ _ hX1.out 1
    have f2 := hfz.out _ _ hX1.out 2
    have f3 := hfz.out _ _ hX1.out 3
    have f4 := hfz.out _ _ hX1.out 4
    have f5 := hfz.out _ _ hX1.out 5
    go_wp2_with fail
    exact hX1.out.fin (r := (7, s)) (fun e => by cases e) Try.results78 rfl rfl
  rw [if_neg hneg]
  obtain ⟨k, hkk⟩ : ∃ k : Nat, i = (k : Int) := ⟨i.toNat, by omega⟩
  subst hkk
  rw [Int.toNat_natCast]
  have hkl : k < s.heaps.length := by omega
  clear hrg hneg
  go_enter Try.func78, Try.ntmps78
  go_upto_region 2 with fail
  rw [← hW0]
  replace hW0 := Lib.hid hW0
  go_at_call 70
  (with_reducible refine hat.out.mono ?_)
  rintro e w1 ⟨rfl, hb1⟩
  have hX1 := Lib.hid (hX0.out.later hb1)
  have hb01 := Lib.hid hb1
  clear hX0 hat hb1
  obtain ⟨k0, k1, k2, k3, k4, k5⟩ := six_cells hX1.out.store
  obtain ⟨c0, c1, c2, c3, c4, c5, c6, c7, c8⟩ := nine_cells2 hX1.out.chore
  obtain ⟨p0, p1⟩ := cells2 hX1.out.farm
  obtain ⟨d0, d1, d2, d3, d4, d5⟩ := cells6 hX1.out.out
  have f0 := hfz.out _ _ hX1.out 0
  have f1 := hfz.out _ _ hX1.out 1
  have f2 := hfz.out _ _ hX1.out 2
  have f3 := hfz.out _ _ hX1.out 3
  have f4 := hfz.out _ _ hX1.out 4
  have f5 := hfz.out _ _ hX1.out 5
  obtain ⟨G, hG⟩ : ∃ G, G = s.heaps[k] := ⟨_, rfl⟩
  obtain ⟨g, hg, hcG, hfG⟩ := hX1.out.rows.heapAt hkl
  rw [← hG] at hcG
  have hgd : Hid (s.heaps.getD k default = G) := by unfold Hid; rw [getD_lt _ hkl, hG]
  have hrG : RdParts w1 G.pa G.parts ∧ G.name.size ≤ 140737488351232 := hG ▸ hX1.out.rows.parts _ (List.getElem_mem hkl)
  have x0 : w1.cell? ⟨g, k * 7, none⟩ = some (.string G.name) := hcG 0 _ rfl
  have x1 : w1.cell? ⟨g, k * 7 + 1, none⟩ = some (.int .i64 G.crop) := hcG 1 _ rfl
  have x2 : w1.cell? ⟨g, k * 7 + 2, none⟩ = some (.int .i64 G.stage) := hcG 2 _ rfl
  have x3 : w1.cell? ⟨g, k * 7 + 3, none⟩ = some (.slice G.pa G.parts.length G.pc) := hcG 3 _ rfl
  have x4 : w1.cell? ⟨g, k * 7 + 4, none⟩ = some (.int .i64 G.per) := hcG 4 _ rfl
  have x5 : w1.cell? ⟨g, k * 7 + 5, none⟩ = some (.int .i64 G.wet.lo) := hcG 5 _ rfl
  have x6 : w1.cell? ⟨g, k * 7 + 6, none⟩ = some (.int .i64 G.wet.hi) := hcG 6 _ rfl
  rw [hg] at k3
  replace hg := Lib.hid hg
  replace hcG := Lib.hid hcG
  replace hfG := Lib.hid hfG
  replace hG := Lib.hid hG
  go_upto_region 13 with fail
  obtain ⟨w2, hw2⟩ : ∃ x, x = w1.alloc (.cells (hcells G) 77) := ⟨_, rfl⟩
  obtain ⟨bh, hbh⟩ : ∃ b, b = w1.heap.size := ⟨_, rfl⟩
  rw [← hw2, ← hbh]
  have hb2 : Below w1.heap.size w1 w2 := by rw [hw2]; exact (Below.refl _ w1).alloc (Nat.le_refl _) _
  have hx2 : Hid (w2.heap[bh]? = some (.cells (hcells G) 77 (0, 0))) := by unfold Hid; rw [hw2, hbh]; exact heap_new _ _ _ rfl
  have hX2 := Lib.hid (hX1.out.later hb2)
  have hrG2 := Lib.hid (hrG.1.below hb2)
  have hnG := Lib.hid hrG.2
  clear x0 x1 x2 x3 x4 x5 x6 k0 k1 k2 k3 k4 k5 c0 c1 c2 c3 c4 c5 c6 c7 c8 p0 p1 d0 d1 d2 d3 d4 d5 f0 f1 f2 f3 f4 f5 hrG hb2
  replace hw2 := Lib.hid hw2
  replace hbh := Lib.hid hbh
  obtain ⟨k0, k1, k2, k3, k4, k5⟩ := six_cells hX2.out.store
  obtain ⟨c0, c1, c2, c3, c4, c5, c6, c7, c8⟩ := nine_cells2 hX2.out.chore
  obtain ⟨p0, p1⟩ := cells2 hX2.out.farm
  obtain ⟨d0, d1, d2, d3, d4, d5⟩ := cells6 hX2.out.out
  have f0 := hfz.out _ _ hX2.out 0
  have f1 := hfz.out _ _ hX2.out 1
  have f2 := hfz.out _ _ hX2.out 2
  have f3 := hfz.out _ _ hX2.out 3
  have f4 := hfz.out _ _ hX2.out 4
  have f5 := hfz.out _ _ hX2.out 5
  obtain ⟨x0, x1, x2, x3, x4, x5, x6⟩ := seven_cells hx2.out
  obtain ⟨wt1, wt2, wt3⟩ := hG.out ▸ hwet _ (List.getElem_mem hkl)
  by_cases t1 : G.stage = 3
  · have hr : Hid (dryP s k a = (8, s)) := by unfold Hid dryP; rw [hgd.out, if_pos t1]
    have t1d : (G.stage == 3) = true := by simpa using t1
    replace t1 := Lib.hid t1
    go_wp2_with fail
    rw [hr.out]
    exact hX2.out.fin (r := (8, s)) (fun e => by cases e) Try.results78 rfl rfl
  have t1d : (G.stage == 3) = false := by simpa using t1
  replace t1 := Lib.hid t1
  cases t2 : inB a.days 0 365 with
  | false =>
    have hr : Hid (dryP s k a = (1, s)) := by unfold Hid dryP; rw [hgd.out, if_neg t1.out, if_pos (fun h => by rw [t2] at h; exact absurd h.1 (by decide))]
    go_wp2_with (go_at_call 49; (with_reducible refine (rin_any _ _ _ _).mono ?_); rintro e w3 ⟨rfl, rfl⟩; rw [t2])
    rw [hr.out]
    exact hX2.out.fin (r := (1, s)) (fun e => by cases e) Try.results78 rfl rfl
  | true =>
  cases t3 : spanB a.rain.lo a.rain.hi 0 100 with
  | false =>
    have hr : Hid (dryP s k a = (1, s)) := by unfold Hid dryP; rw [hgd.out, if_neg t1.out, if_pos (fun h => by rw [t3] at h; exact absurd h.2 (by decide))]
    go_wp2_with (first | (go_at_call 49; (with_reducible refine (rin_any _ _ _ _).mono ?_); rintro e w3 ⟨rfl, rfl⟩; rw [t2]) | (go_at_call 58; (with_reducible refine (rspan_any _ _ _ _ _).mono ?_); rintro e w3 ⟨rfl, hb3⟩; rw [t3]; have hX3 := Lib.hid (hX2.out.later hb3); clear d0 d1 d2 d3 d4 d5 f0 f1 f2 f3 f4 f5 k0 k1 k2 k3 k4 k5; obtain ⟨k0, k1, k2, k3, k4, k5⟩ := six_cells hX3.out.store; obtain ⟨d0, d1, d2, d3, d4, d5⟩ := cells6 hX3.out.out; have f0 := hfz.out _ _ hX3.out 0; have f1 := hfz.out _ _ hX3.out 1; have f2 := hfz.out _ _ hX3.out 2; have f3 := hfz.out _ _ hX3.out 3; have f4 := hfz.out _ _ hX3.out 4; have f5 := hfz.out _ _ hX3.out 5))
    rw [hr.out]
    exact hX3.out.fin (r := (1, s)) (fun e => by cases e) Try.results78 rfl rfl
  | true =>
  have hr : Hid (dryP s k a = (0, { s with heaps := s.heaps.set k (wetH G ⟨clampP (G.wet.lo - 20 * a.days + 5 * a.rain.lo), clampP (G.wet.hi - 10 * a.days + 15 * a.rain.hi)⟩) })) := by unfold Hid dryP; rw [hgd.out, if_neg t1.out, if_neg (fun h => h ⟨t2, t3⟩)]
  have b2 := t2
  have b3 := t3
  simp only [inB, spanB, Bool.and_eq_true, decide_eq_true_eq] at b2 b3
  go_wp2_with (first | (go_at_call 49; (with_reducible refine (rin_any _ _ _ _).mono ?_); rintro e w3 ⟨rfl, rfl⟩; rw [t2]) | (go_at_call 58; (with_reducible refine (rspan_any _ _ _ _ _).mono ?_); rintro e w3 ⟨rfl, hb3⟩; rw [t3]))
  have hX3 := Lib.hid (hX2.out.later hb3)
  have hbhl := (Array.getElem?_eq_some_iff.1 hx2.out).1
  have hx3 : Hid (w3.heap[bh]? = some (.cells (hcells G) 77 (0, 0))) := (hb3.block _ hbhl).trans hx2.out
  have hbhl3 := (Array.getElem?_eq_some_iff.1 hx3.out).1
  clear x0 x1 x2 x3 x4 x5 x6 k0 k1 k2 k3 k4 k5 c0 c1 c2 c3 c4 c5 c6 c7 c8 p0 p1 d0 d1 d2 d3 d4 d5 f0 f1 f2 f3 f4 f5
  replace hb3 := Lib.hid hb3
  have m1 : IntKind.i64.wrap (20 * a.days) = 20 * a.days := IntWalk.i64_in _ (by omega)
  have m2 : IntKind.i64.wrap (5 * a.rain.lo) = 5 * a.rain.lo := IntWalk.i64_in _ (by omega)
  have m3 : IntKind.i64.wrap (10 * a.days) = 10 * a.days := IntWalk.i64_in _ (by omega)
  have m4 : IntKind.i64.wrap (15 * a.rain.hi) = 15 * a.rain.hi := IntWalk.i64_in _ (by omega)
  have m5 : IntKind.i64.wrap (G.wet.lo - 20 * a.days) = G.wet.lo - 20 * a.days := IntWalk.i64_in _ (by omega)
  have m6 : IntKind.i64.wrap (G.wet.hi - 10 * a.days) = G.wet.hi - 10 * a.days := IntWalk.i64_in _ (by omega)
  have m7 : IntKind.i64.wrap (G.wet.lo - 20 * a.days + 5 * a.rain.lo) = G.wet.lo - 20 * a.days + 5 * a.rain.lo := IntWalk.i64_in _ (by omega)
  have m8 : IntKind.i64.wrap (G.wet.hi - 10 * a.days + 15 * a.rain.hi) = G.wet.hi - 10 * a.days + 15 * a.rain.hi := IntWalk.i64_in _ (by omega)
  have hS : Hid (∀ W, Below w3.heap.size w3 W → W.cell? ⟨w.heap.size + 1, 3, none⟩ = some (.slice (some ⟨g, 0, none⟩) s.heaps.length s.hc) ∧ W.cell? ⟨bh, 5, none⟩ = some (.int .i64 G.wet.lo) ∧ W.cell? ⟨bh, 6, none⟩ = some (.int .i64 G.wet.hi) ∧ W.cell? ⟨w.heap.size + 1 + 1, 5, none⟩ = some (.int .i64 a.days) ∧ W.cell? ⟨w.heap.size + 1 + 1, 7, none⟩ = some (.int .i64 a.rain.lo) ∧ W.cell? ⟨w.heap.size + 1 + 1, 8, none⟩ = some (.int .i64 a.rain.hi)) := fun W hW => by
    have hX := hX3.out.later hW
    have e3 := (six_cells hX.store).2.2.2.1
    rw [hg.out] at e3
    obtain ⟨_, _, _, _, _, e5, e6⟩ := seven_cells ((hW.block _ hbhl3).trans hx3.out)
    obtain ⟨_, _, _, _, _, e7, _, e8, e9⟩ := nine_cells2 hX.chore
    exact ⟨e3, e5, e6, e7, e8, e9⟩
  obtain ⟨g', hg', hc4, hf4⟩ := (hX3.out.later (below_drewN_ w3 1)).rows.heapAt hkl
  rw [hg.out] at hg'
  cases hg'
  rw [← hG.out] at hc4
  refine wp_region_tree (fun W => Below w3.heap.size w3 W) (.pure 0 (.read 1 (.pure 2 (.pure 3 (.pure 4 (.read 5 (.pure 6 (.read 7 (.pure 8 (.pure 9 (.pure 10 (.pure 11 (.read 12 (.pure 13 (.pure 14 (.pure 16 (.pure 17 (.read 18 (.pure 19 (.read 20 (.pure 21 (.pure 22 (.pure 23 (.pure 24 (.read 25 (.pure 26 (.pure 27 (.one 15 (.one 28 (.pure 29 (.pure 30 (.pure 31 (.one 32 .done))))))))))))))))))))))))))))))))) [32] (by kernel_rfl) (by kernel_rfl) (below_drewN_ w3 1) ?_
  have hXd := Lib.hid (hX3.out.later (below_drewN_ w3 1))
  obtain ⟨wq, hwq⟩ : ∃ x, x = w3.drew := ⟨_, rfl⟩
  have hXq : Hid (RX s B w A c pl dry a s wq) := by rw [hwq]; exact hXd.out
  have z5 : wq.cell? ⟨g, k * 7 + 5, none⟩ = some (.int .i64 G.wet.lo) := by rw [hwq]; exact hc4 5 _ rfl
  have z6 : wq.cell? ⟨g, k * 7 + 6, none⟩ = some (.int .i64 G.wet.hi) := by rw [hwq]; exact hc4 6 _ rfl
  have v5 : wq.frozen? ⟨g, k * 7 + 5, none⟩ = false := by rw [hwq]; exact hf4 (k * 7 + 5)
  have v6 : wq.frozen? ⟨g, k * 7 + 6, none⟩ = false := by rw [hwq]; exact hf4 (k * 7 + 6)
  rw [← hwq]
  replace hwq := Lib.hid hwq
  replace hc4 := Lib.hid hc4
  replace hf4 := Lib.hid hf4
  clear hXd
  repeat
    ((first | (refine wpTree_pure (v := ?_) rfl (by rfl) ?_ (fun _ _ _ h => h) ?_) | (refine wpTree_take (v := ?_) rfl (by rfl) ?_ (fun _ _ _ h => h) ?_))
     rotate_left
     (focus (intro w'; (try (intro hSw; obtain ⟨k3, y5, y6, y7, y8, y9⟩ := hS.out _ hSw; clear hSw)); (try simp only [List.getElem_toArray, List.getElem_cons_zero, List.getElem_cons_succ]); go_simp; try with_reducible rfl))
     simp only [List.getElem_toArray, List.getElem_cons_zero, List.getElem_cons_succ, Act.put, List.setIfInBounds_toArray, List.set_cons_zero, List.set_cons_succ])
  refine wpTree_do rfl (by rfl) ?_
  (try simp only [List.getElem_toArray, List.getElem_cons_zero, List.getElem_cons_succ])
  go_simp
  go_at_call 110
  (with_reducible refine (clamp_any _ _).mono ?_)
  rintro e w4 ⟨rfl, rfl⟩
  refine ⟨fun h => h, ?_⟩
  refine wpTree_do rfl (by rfl) ?_
  (try simp only [List.getElem_toArray, List.getElem_cons_zero, List.getElem_cons_succ])
  go_simp
  go_at_call 110
  (with_reducible refine (clamp_any _ _).mono ?_)
  rintro e w5 ⟨rfl, rfl⟩
  refine ⟨fun h => h, ?_⟩
  refine wpTree_pure (v := ?_) rfl (by rfl) ?_ (fun _ _ _ h => h) ?_
  rotate_left
  focus (intro w'; (try simp only [List.getElem_toArray, List.getElem_cons_zero, List.getElem_cons_succ]); go_simp; try with_reducible rfl)
  simp only [List.getElem_toArray, List.getElem_cons_zero, List.getElem_cons_succ, Act.put, List.setIfInBounds_toArray, List.set_cons_zero, List.set_cons_succ]
  refine wpTree_pure (v := ?_) rfl (by rfl) ?_ (fun _ _ _ h => h) ?_
  rotate_left
  focus (intro w'; (try simp only [List.getElem_toArray, List.getElem_cons_zero, List.getElem_cons_succ]); go_simp; try with_reducible rfl)
  simp only [List.getElem_toArray, List.getElem_cons_zero, List.getElem_cons_succ, Act.put, List.setIfInBounds_toArray, List.set_cons_zero, List.set_cons_succ]
  refine wpTree_pure (v := ?_) rfl (by rfl) ?_ (fun _ _ _ h => h) ?_
  rotate_left
  focus (intro w'; (try simp only [List.getElem_toArray, List.getElem_cons_zero, List.getElem_cons_succ]); go_simp; try with_reducible rfl)
  simp only [List.getElem_toArray, List.getElem_cons_zero, List.getElem_cons_succ, Act.put, List.setIfInBounds_toArray, List.set_cons_zero, List.set_cons_succ]
  refine wpTree_do rfl (by rfl) ?_
  (try simp only [List.getElem_toArray, List.getElem_cons_zero, List.getElem_cons_succ])
  go_simp
  unfold wpTree
  obtain ⟨l1, hl1⟩ : ∃ x, x = clampP (G.wet.lo - 20 * a.days + 5 * a.rain.lo) := ⟨_, rfl⟩
  obtain ⟨l2, hl2⟩ : ∃ x, x = clampP (G.wet.hi - 10 * a.days + 15 * a.rain.hi) := ⟨_, rfl⟩
  rw [← hl1, ← hl2] at hr ⊢
  replace hl1 := Lib.hid hl1
  replace hl2 := Lib.hid hl2
  obtain ⟨w8, hw8⟩ : ∃ x, x = (w5.setCell ⟨g, k * 7 + 5, none⟩ (.int .i64 l1)).setCell ⟨g, k * 7 + 5 + 1, none⟩ (.int .i64 l2) := ⟨_, rfl⟩
  rw [← hw8]
  obtain ⟨t8, ht8⟩ : ∃ t, t = ({ s with heaps := s.heaps.set k { G with wet := ⟨l1, l2⟩ } } : Store) := ⟨_, rfl⟩
  have hX8 : Hid (RX s B w A c pl dry a t8 w8) := by
    have hgm := List.getElem_mem hkl
    rw [← hG.out] at hgm
    have hp1 := hXq.out.rows.old hgm
    have hf1 : ∀ q, G.parts ≠ [] → blk G.pa = some q → Lies s q ∨ w.heap.size + 4 ≤ q := fun q h1 h2 => .inl (.inr (.inr (.inr (.inr (.inr ⟨G, hgm, h1, h2⟩)))))
    have hXa := hXq.out.heapTo (i := k) (j := 5) (u := .int .i64 l1) (y := { G with wet := ⟨l1, G.wet.hi⟩ }) hg.out hkl (by decide) (by rw [← hG.out]; rfl) ⟨⟨hp1.1.1, hp1.1.2⟩, hp1.2⟩ hf1
    have hk5 : k < (s.heaps.set k { G with wet := ⟨l1, G.wet.hi⟩ }).length := by rw [List.length_set]; exact hkl
    have hge : (s.heaps.set k { G with wet := ⟨l1, G.wet.hi⟩ })[k]'hk5 = { G with wet := ⟨l1, G.wet.hi⟩ } := List.getElem_set_self _
    have hp2 := hXa.rows.old (g := { G with wet := ⟨l1, G.wet.hi⟩ }) (by have := List.getElem_mem hk5; rw [hge] at this; exact this)
    have hXb := hXa.heapTo (i := k) (j := 6) (u := .int .i64 l2) (y := { G with wet := ⟨l1, l2⟩ }) hg.out hk5 (by decide) (by rw [show ({ s with heaps := s.heaps.set k { G with wet := ⟨l1, G.wet.hi⟩ } } : Store).heaps[k]'hk5 = _ from hge]; rfl) ⟨⟨hp2.1.1, hp2.1.2⟩, hp2.2⟩ hf1
    rw [hw8, ht8]
    rw [List.set_set] at hXb
    exact hXb
  replace hw8 := Lib.hid hw8
  have hsame : Hid (SameC t8 { s with heaps := s.heaps.set k (wetH G ⟨l1, l2⟩) }) := by
    unfold Hid; rw [ht8]
    exact (SameC.refl s).put k _ _ rfl
  replace ht8 := Lib.hid ht8
  clear z5 z6 v5 v6
  obtain ⟨k0, k1, k2, k3, k4, k5⟩ := six_cells hX8.out.store
  obtain ⟨c0, c1, c2, c3, c4, c5, c6, c7, c8⟩ := nine_cells2 hX8.out.chore
  obtain ⟨p0, p1⟩ := cells2 hX8.out.farm
  obtain ⟨d0, d1, d2, d3, d4, d5⟩ := cells6 hX8.out.out
  have f0 := hfz.out _ _ hX8.out 0
  have f1 := hfz.out _ _ hX8.out 1
  have f2 := hfz.out _ _ hX8.out 2
  have f3 := hfz.out _ _ hX8.out 3
  have f4 := hfz.out _ _ hX8.out 4
  have f5 := hfz.out _ _ hX8.out 5
  go_wp2_with fail
  rw [hr.out]
  exact hX8.out.fin (r := (0, _)) (fun _ => hsame.out) Try.results78 rfl rfl
end Go.Proofs.Ytpgkhlpepckfgaa
end
section
namespace Go.Proofs.Ytpgkhlpepckfgaa
open Go.RowKit Go.Lib

set_option maxHeartbeats 4000000 in
set_option maxRecDepth 100000 in
theorem done_rot (B : Nat) (A : Option Addr) (pl : List Plot) (c : Nat) (dry : Int) (s : Store) (a : Chore) (w : World) (h : Rows B none s w) (hB : B ≤ w.heap.size) (hk : a.kind = 8) (hw : Mild s.waste) (hm : MildH s.heaps) (hpos : ∀ x ∈ s.heaps, ∀ p ∈ x.parts, 0 < p.loads) :
    Calls Try.prog 78 #[.agg #[.slice A pl.length c, .int .i64 dry], storeVal s, choreVal a] w (RefOut B s (if nameIdx a.name s.heaps < 0 then (7, s) else rotP dry s (nameIdx a.name s.heaps).toNat) w) := by
  have hq1 : (a.kind == 1) = false := by rw [hk]; rfl
  have hq2 : (a.kind == 2) = false := by rw [hk]; rfl
  have hq3 : (a.kind == 3) = false := by rw [hk]; rfl
  have hq4 : (a.kind == 4) = false := by rw [hk]; rfl
  have hq5 : (a.kind == 5) = false := by rw [hk]; rfl
  have hq6 : (a.kind == 6) = false := by rw [hk]; rfl
  have hq7 : (a.kind == 7) = false := by rw [hk]; rfl
  have hq8 : (a.kind == 8) = true := by rw [hk]; rfl
  replace hk := Lib.hid hk
  obtain ⟨W0, hW0⟩ : ∃ W0, W0 = RXw w A c pl dry a s := ⟨_, rfl⟩
  have hX0 : Hid (RX s B w A c pl dry a s W0) := by rw [hW0]; exact RX.make h hB
  unfold RXw at hW0
  have hat : Hid (Calls Try.prog 70 #[storeVal s, .string a.name] W0 fun e w' => e = .returned (.int .i64 (nameIdx a.name s.heaps)) ∧ Below W0.heap.size W0 w') := at_any s a.name W0 hX0.out.rows.store
  have hrg := nameIdx_range a.name s.heaps
  obtain ⟨i, hi⟩ : ∃ i, i = nameIdx a.name s.heaps := ⟨_, rfl⟩
  rw [← hi] at hat hrg ⊢
  replace hi := Lib.hid hi
  have hfz : Hid (∀ W t, RX s B w A c pl dry a t W → ∀ j, W.frozen? ⟨w.heap.size + 1 + 1 + 1, j, none⟩ = false) := fun W t h j => frozen_of_row W _ j _ _ h.out
  by_cases hneg : i < 0
  · rw [if_pos hneg]
    go_enter Try.func78, Try.ntmps78
    go_upto_region 2 with fail
    rw [← hW0]
    replace hW0 := Lib.hid hW0
    go_at_call 70
    (with_reducible refine hat.out.mono ?_)
    rintro e w1 ⟨rfl, hb1⟩
    have hX1 := Lib.hid (hX0.out.later hb1)
    have hb01 := Lib.hid hb1
    clear hX0 hat hb1
    obtain ⟨k0, k1, k2, k3, k4, k5⟩ := six_cells hX1.out.store
    obtain ⟨c0, c1, c2, c3, c4, c5, c6, c7, c8⟩ := nine_cells2 hX1.out.chore
    obtain ⟨p0, p1⟩ := cells2 hX1.out.farm
    obtain ⟨d0, d1, d2, d3, d4, d5⟩ := cells6 hX1.out.out
    have f0 := hfz.out _ _ hX1.out 0
    have f1 := hfz.out _ _ hX1.out 1
    have f2 := hfz.out _ _ hX1.out 2
    have f3 := hfz.out _ _ hX1.out 3
    have f4 := hfz.out _ _ hX1.out 4
    have f5 := hfz.out _ _ hX1.out 5
    go_wp2_with fail
    exact hX1.out.fin (r := (7, s)) (fun e => by cases e) Try.results78 rfl rfl
  rw [if_neg hneg]
  obtain ⟨k, hkk⟩ : ∃ k : Nat, i = (k : Int) := ⟨i.toNat, by omega⟩
  subst hkk
  rw [Int.toNat_natCast]
  have hkl : k < s.heaps.length := by omega
  clear hrg hneg
  go_enter Try.func78, Try.ntmps78
  go_upto_region 2 with fail
  rw [← hW0]
  replace hW0 := Lib.hid hW0
  go_at_call 70
  (with_reducible refine hat.out.mono ?_)
  rintro e w1 ⟨rfl, hb1⟩
  have hX1 := Lib.hid (hX0.out.later hb1)
  have hb01 := Lib.hid hb1
  clear hX0 hat hb1
  obtain ⟨k0, k1, k2, k3, k4, k5⟩ := six_cells hX1.out.store
  obtain ⟨c0, c1, c2, c3, c4, c5, c6, c7, c8⟩ := nine_cells2 hX1.out.chore
  obtain ⟨p0, p1⟩ := cells2 hX1.out.farm
  obtain ⟨d0, d1, d2, d3, d4, d5⟩ := cells6 hX1.out.out
  have f0 := hfz.out _ _ hX1.out 0
  have f1 := hfz.out _ _ hX1.out 1
  have f2 := hfz.out _ _ hX1.out 2
  have f3 := hfz.out _ _ hX1.out 3
  have f4 := hfz.out _ _ hX1.out 4
  have f5 := hfz.out _ _ hX1.out 5
  obtain ⟨G, hG⟩ : ∃ G, G = s.heaps[k] := ⟨_, rfl⟩
  obtain ⟨g, hg, hcG, hfG⟩ := hX1.out.rows.heapAt hkl
  rw [← hG] at hcG
  have hgd : Hid (s.heaps.getD k default = G) := by unfold Hid; rw [getD_lt _ hkl, hG]
  have hrG : RdParts w1 G.pa G.parts ∧ G.name.size ≤ 140737488351232 := hG ▸ hX1.out.rows.parts _ (List.getElem_mem hkl)
  have x0 : w1.cell? ⟨g, k * 7, none⟩ = some (.string G.name) := hcG 0 _ rfl
  have x1 : w1.cell? ⟨g, k * 7 + 1, none⟩ = some (.int .i64 G.crop) := hcG 1 _ rfl
  have x2 : w1.cell? ⟨g, k * 7 + 2, none⟩ = some (.int .i64 G.stage) := hcG 2 _ rfl
  have x3 : w1.cell? ⟨g, k * 7 + 3, none⟩ = some (.slice G.pa G.parts.length G.pc) := hcG 3 _ rfl
  have x4 : w1.cell? ⟨g, k * 7 + 4, none⟩ = some (.int .i64 G.per) := hcG 4 _ rfl
  have x5 : w1.cell? ⟨g, k * 7 + 5, none⟩ = some (.int .i64 G.wet.lo) := hcG 5 _ rfl
  have x6 : w1.cell? ⟨g, k * 7 + 6, none⟩ = some (.int .i64 G.wet.hi) := hcG 6 _ rfl
  rw [hg] at k3
  replace hg := Lib.hid hg
  replace hcG := Lib.hid hcG
  replace hfG := Lib.hid hfG
  replace hG := Lib.hid hG
  go_upto_region 13 with fail
  obtain ⟨w2, hw2⟩ : ∃ x, x = w1.alloc (.cells (hcells G) 77) := ⟨_, rfl⟩
  obtain ⟨bh, hbh⟩ : ∃ b, b = w1.heap.size := ⟨_, rfl⟩
  rw [← hw2, ← hbh]
  have hb2 : Below w1.heap.size w1 w2 := by rw [hw2]; exact (Below.refl _ w1).alloc (Nat.le_refl _) _
  have hx2 : Hid (w2.heap[bh]? = some (.cells (hcells G) 77 (0, 0))) := by unfold Hid; rw [hw2, hbh]; exact heap_new _ _ _ rfl
  have hX2 := Lib.hid (hX1.out.later hb2)
  have hrG2 := Lib.hid (hrG.1.below hb2)
  have hnG := Lib.hid hrG.2
  clear x0 x1 x2 x3 x4 x5 x6 k0 k1 k2 k3 k4 k5 c0 c1 c2 c3 c4 c5 c6 c7 c8 p0 p1 d0 d1 d2 d3 d4 d5 f0 f1 f2 f3 f4 f5 hrG hb2
  replace hw2 := Lib.hid hw2
  replace hbh := Lib.hid hbh
  obtain ⟨k0, k1, k2, k3, k4, k5⟩ := six_cells hX2.out.store
  obtain ⟨c0, c1, c2, c3, c4, c5, c6, c7, c8⟩ := nine_cells2 hX2.out.chore
  obtain ⟨p0, p1⟩ := cells2 hX2.out.farm
  obtain ⟨d0, d1, d2, d3, d4, d5⟩ := cells6 hX2.out.out
  have f0 := hfz.out _ _ hX2.out 0
  have f1 := hfz.out _ _ hX2.out 1
  have f2 := hfz.out _ _ hX2.out 2
  have f3 := hfz.out _ _ hX2.out 3
  have f4 := hfz.out _ _ hX2.out 4
  have f5 := hfz.out _ _ hX2.out 5
  obtain ⟨x0, x1, x2, x3, x4, x5, x6⟩ := seven_cells hx2.out
  have hmG : Mild G.parts := hG.out ▸ (hm.2 _ (List.getElem_mem hkl))
  have hpG : ∀ p ∈ G.parts, 0 < p.loads := hG.out ▸ hpos _ (List.getElem_mem hkl)
  by_cases t1 : dry < G.wet.hi
  rotate_left
  · have hr : Hid (rotP dry s k = (8, s)) := by unfold Hid rotP; rw [hgd.out, if_pos t1]
    have t1d : decide (G.wet.hi ≤ dry) = true := decide_eq_true (by omega)
    replace t1 := Lib.hid t1
    go_wp2_with fail
    rw [hr.out]
    exact hX2.out.fin (r := (8, s)) (fun e => by cases e) Try.results78 rfl rfl
  have t1d : decide (G.wet.hi ≤ dry) = false := decide_eq_false (by omega)
  have hr : Hid (rotP dry s k = (0, keepP { s with waste := behindP s.waste G.parts } k [])) := by unfold Hid rotP; rw [hgd.out, if_neg (fun h => h t1)]
  replace t1 := Lib.hid t1
  have hbe : Hid (Calls Try.prog 111 #[.slice s.wa s.waste.length s.wc, .slice G.pa G.parts.length G.pc] w2 (BehOut (behindP s.waste G.parts) w2)) := joined_any _ _ _ _ _ _ _ hX2.out.rows.waste hrG2.out hw hmG hpG
  have hlenB : Hid ((behindP s.waste G.parts).length ≤ 140737488351232) := behind_len hw hmG
  obtain ⟨JL, hJL⟩ : ∃ JL, JL = behindP s.waste G.parts := ⟨_, rfl⟩
  rw [← hJL] at hbe hlenB hr
  replace hJL := Lib.hid hJL
  replace hpG := Lib.hid hpG
  go_wp2_with fail
  go_at_call 111
  (with_reducible refine hbe.out.mono ?_)
  rintro e w3 ⟨A1, ec1, rfl, hr3, hb3⟩
  have hX3 := Lib.hid (hX2.out.later hb3)
  have hz2 := hX2.out.size
  have hn3 : Hid (∀ q, JL ≠ [] → blk A1 = some q → Off s (some (w.heap.size + 1)) q ∧ w.heap.size + 4 ≤ q) := fun q _ e => by
    have h1 := (hr3.lt q (by rw [ownBlock_slice]; exact e)).1
    exact ⟨hX2.out.rows.newOff h1, by omega⟩
  clear x0 x1 x2 x3 x4 x5 x6 k0 k1 k2 k3 k4 k5 c0 c1 c2 c3 c4 c5 c6 c7 c8 p0 p1 d0 d1 d2 d3 d4 d5 f0 f1 f2 f3 f4 f5
  replace hr3 := Lib.hid hr3
  replace hb3 := Lib.hid hb3
  obtain ⟨k0, k1, k2, k3, k4, k5⟩ := six_cells hX3.out.store
  have s5 : w3.frozen? ⟨w.heap.size + 1, 5, none⟩ = false := frozen_of_row w3 _ 5 _ _ hX3.out.store
  go_upto_region 44 with fail
  obtain ⟨w4, hw4⟩ : ∃ x, x = w3.setCell ⟨w.heap.size + 1, 5, none⟩ (.slice A1 JL.length ec1) := ⟨_, rfl⟩
  rw [← hw4]
  obtain ⟨t1', ht1⟩ : ∃ t, t = ({ s with waste := JL, wa := A1, wc := ec1 } : Store) := ⟨_, rfl⟩
  have hX4 : Hid (RX s B w A c pl dry a t1' w4) := by rw [hw4, ht1]; exact hX3.out.wasteTo (hr3.out.rd hlenB.out) hn3.out
  have hk4 : k < t1'.heaps.length := by rw [ht1]; exact hkl
  have hsame : Hid (SameC (keepP t1' k []) (keepP { s with waste := JL } k [])) := by unfold Hid; rw [ht1]; exact SameC.keep (s := { s with waste := JL, wa := A1, wc := ec1 }) (t := { s with waste := JL }) ⟨rfl, rfl, rfl, rfl, rfl, rfl⟩ k []
  replace hw4 := Lib.hid hw4
  replace ht1 := Lib.hid ht1
  clear k0 k1 k2 k3 k4 k5 s5
  obtain ⟨k0, k1, k2, k3, k4, k5⟩ := six_cells hX4.out.store
  have hwo : Hid (Calls Try.prog 115 #[storeVal t1', .int .i64 k] w4 (WithOut B w4.heap.size (fun _ => False) t1' (keepP t1' k []) w4)) := without_any B t1' k w4 (hX4.out.rows.loose (Nat.le_refl _)) hX4.out.bLe hk4
  go_wp2_with fail
  go_at_call 115
  (with_reducible refine hwo.out.mono ?_)
  rintro e w9 ⟨t, rfl, hst9, hrt9, hb9, hf9, hk9, _⟩
  have hz9 := hX4.out.size
  have ho9 : w9.heap[w.heap.size + 1 + 1 + 1]? = some (.cells emptyC 43 (0, 0)) := (hk9 _ (by omega) (fun e => by have := hX4.out.far _ (RX.ownLies (.inr (.inr e))); omega)).trans hX4.out.out
  obtain ⟨d0, d1, d2, d3, d4, d5⟩ := cells6 ho9
  have hfz9 : ∀ j, w9.frozen? ⟨w.heap.size + 1 + 1 + 1, j, none⟩ = false := fun j => frozen_of_row w9 _ j _ _ ho9
  have f0 := hfz9 0
  have f1 := hfz9 1
  have f2 := hfz9 2
  have f3 := hfz9 3
  have f4 := hfz9 4
  have f5 := hfz9 5
  clear hfz9
  replace ho9 := Lib.hid ho9
  replace hb9 := Lib.hid hb9
  replace hst9 := Lib.hid hst9
  replace hrt9 := Lib.hid hrt9
  replace hk9 := Lib.hid hk9
  replace hf9 := Lib.hid hf9
  go_wp2_with fail
  rw [hr.out]
  refine bodyPost_ret (ret_store Try.results78 rfl rfl (set6 _ _ _ _ _ _ ho9.out)) rfl ?_
  have hz := hb9.out.size
  have hB' := hX4.out.hB
  have hq3 : ∀ q, Lies t q → Lies s q ∨ w.heap.size + 4 ≤ q := fun q hq => by
    rcases hf9.out q hq with h1 | h1 | h1
    · exact hX4.out.frm q h1
    · exact (fun q hq => hq.elim) q h1
    · exact .inr (by omega)
  refine ⟨t, rfl, set6_below _ _ _ _ _ _ (hX4.out.below.trans (hb9.out.mono (by have := hX4.out.bLe; omega))) (by omega), fun _ => ⟨hst9.out.trans hsame.out, hrt9.out.put6 (by omega) (fun q hq => ?_) _ _ _ _ _ _, fun q hq => (hq3 q hq).imp id (by omega)⟩, fun q hq hn => (set6_other _ _ _ _ _ _ (by omega)).trans ((hk9.out q (by omega) (fun e => hX4.out.notOwn hq hn (.inr (.inr e)) rfl)).trans (hX4.out.kept q hq hn))⟩
  rcases hq3 q hq with h1 | h1
  · have := hX4.out.low q h1; omega
  · omega
end Go.Proofs.Ytpgkhlpepckfgaa
end
