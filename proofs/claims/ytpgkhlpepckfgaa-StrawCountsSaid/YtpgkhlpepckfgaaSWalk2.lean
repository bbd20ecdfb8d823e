/-
  Whether parts are in order, and whether a store is more than statements look at: walked.
-/
import Derived.Test.YtpgkhlpepckfgaaSWalk
import Derived.StillTailTactics
namespace Go.Proofs.Ytpgkhlpepckfgaa
open Go.RowKit Go.Lib

set_option maxHeartbeats 1000000 in
set_option maxRecDepth 100000 in
theorem wide_any (s : Store) (w : World) (h : RdStore w s) :
    Calls Try.prog 22 #[storeVal s] w fun e w' => (∃ b : Bool, e = .returned (.bool b) ∧ (b = false → s.heaps.length ≤ 30 ∧ s.used.length ≤ 200 ∧ s.waste.length ≤ 200 ∧ s.last.length ≤ 30 ∧ s.given.length ≤ 30 ∧ ∀ x ∈ s.heaps, x.parts.length ≤ 200)) ∧ Below w.heap.size w w' := by
  have hl := h.heaps.1.1
  have hl2 := h.used.1
  have hl3 := h.waste.1
  have hl4 := h.last.1
  have hl5 := h.given.1
  have hS0 : Hid ((w.alloc (.cells (storeCells s) 43)).heap[w.heap.size]? = some (.cells (storeCells s) 43 (0, 0))) := heap_new _ _ _ rfl
  have hb0 : Below w.heap.size w (w.alloc (.cells (storeCells s) 43)) := (Below.refl _ w).alloc (Nat.le_refl _) _
  by_cases hA : s.heaps.length ≤ 30 ∧ s.used.length ≤ 200 ∧ s.waste.length ≤ 200 ∧ s.last.length ≤ 30 ∧ s.given.length ≤ 30
  · obtain ⟨q1, q2, q3, q4, q5⟩ := hA
    go_enter Try.func22, Try.ntmps22
    go_wp2
    go_loopw [3, 4] (fun v j wr => ∃ (x : Int) (k : Nat), v = .int .i64 x ∧ j = .int .i64 k ∧ k ≤ s.heaps.length ∧ Hid (∀ i (hi : i < s.heaps.length), i < k → s.heaps[i].parts.length ≤ 200) ∧ w.heap.size < wr.heap.size ∧ Hid (wr.heap[w.heap.size]? = some (.cells (storeCells s) 43 (0, 0))) ∧ Hid (Below w.heap.size w wr)) (fun _ j _ => s.heaps.length - (intOf j).toNat)
    case atStart => exact ⟨0, 0, rfl, rfl, by omega, (fun i hi h => by omega), by simp, hS0, (Below.refl _ w).alloc (Nat.le_refl _) _⟩
    case round =>
      obtain ⟨x, k, rfl, rfl, hk, hP, hsz, hS, hB⟩ := hrel
      obtain ⟨s0, s1, s2, s3, s4, s5⟩ := six_cells hS.out
      by_cases hlt : k < s.heaps.length
      · obtain ⟨ad, hA, p0, p1, p2, p3, p4, p5, p6⟩ := (FlatRow.below h.heaps.1 hB.out).at7 hlt rfl
        rw [hA] at s3
        have hpl := (h.heaps.2 _ (List.getElem_mem hlt)).1.1
        by_cases h2 : s.heaps[k].parts.length ≤ 200
        · go_wp2
          refine ⟨⟨_, k + 1, rfl, by go_num, by omega, (fun i hi h => ?_), hsz, hS, hB⟩, by simp only [intOf]; omega⟩
          by_cases hik : i = k
          · subst hik; exact h2
          · exact hP.out i hi (by omega)
        · go_wp2
          refine bodyPost_ret (v := .bool true) (by simp [results, Try.results22, go_sem]) rfl ?_
          first
            | exact ⟨⟨true, rfl, fun h => by cases h⟩, hB.out⟩
            | exact ⟨.inr rfl, hB.out⟩
      · have hke : k = s.heaps.length := by omega
        subst hke
        go_wp2
        refine bodyPost_ret (v := .bool (decide (2000 < x))) (by simp [results, Try.results22, go_sem]) rfl ⟨⟨_, rfl, fun _ => ⟨q1, q2, q3, q4, q5, fun y hy => ?_⟩⟩, hB.out⟩
        obtain ⟨i, hi, rfl⟩ := List.getElem_of_mem hy
        exact hP.out i hi hi
  · go_enter Try.func22, Try.ntmps22
    go_wp2
    all_goals first
      | (exfalso; omega)
      | (refine bodyPost_ret (v := .bool true) (by simp [results, Try.results22, go_sem]) rfl ?_
         first
           | exact ⟨⟨true, rfl, fun h => by cases h⟩, hb0⟩
           | exact ⟨.inr rfl, hb0⟩
           | (refine ⟨⟨_, rfl, fun h => ?_⟩, hb0⟩; simp at h; omega))
      | (refine bodyPost_ret (v := .bool _) (by simp [results, Try.results22, go_sem]; rfl) rfl ?_
         refine ⟨⟨_, rfl, fun h => ?_⟩, hb0⟩
         simp at h; omega)
      | (exact (0 : Nat))
end Go.Proofs.Ytpgkhlpepckfgaa
