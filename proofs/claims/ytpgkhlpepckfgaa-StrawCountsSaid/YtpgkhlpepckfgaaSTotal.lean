/-
  All loads of a store, walked.
-/
import Derived.Test.YtpgkhlpepckfgaaSWalk
import Derived.StillTailTactics
namespace Go.Proofs.Ytpgkhlpepckfgaa
open Go.RowKit Go.Lib

set_option maxHeartbeats 1000000 in
set_option maxRecDepth 100000 in
theorem total_any (s : Store) (w : World) (h : RdStore w s) (hm : MildH s.heaps) (hu : Mild s.used) (hw : Mild s.waste) :
    Calls Try.prog 89 #[storeVal s] w fun e w' => e = .returned (.int .i64 (totalS s)) ∧ Below w.heap.size w w' := by
  have hl := h.heaps.1.1
  have hlm := hm.1
  obtain ⟨u1, u2⟩ := hu.sum
  obtain ⟨v1, v2⟩ := hw.sum
  have hb0 : Below w.heap.size w (w.alloc (.cells (storeCells s) 43)) := (Below.refl _ w).alloc (Nat.le_refl _) _
  have hud := h.used.below hb0
  have hwd := h.waste.below hb0
  have hS0 : Hid ((w.alloc (.cells (storeCells s) 43)).heap[w.heap.size]? = some (.cells (storeCells s) 43 (0, 0))) := heap_new _ _ _ rfl
  have hb0 := Lib.hid hb0
  go_enter Try.func89, Try.ntmps89
  go_wp2
  have hq1 : ∀ n, Calls Try.prog 71 #[.slice s.ua s.used.length s.uc] ((w.alloc (.cells (storeCells s) 43)).drewN n) fun e w' => e = .returned (.int .i64 (sumL s.used)) ∧ w' = (w.alloc (.cells (storeCells s) 43)).drewN n := fun n => (loads_any _ _ _ _ (hud.below (below_drewN_ _ n)) hu).mono fun _ _ ⟨a, b⟩ => ⟨a, b.symm⟩
  have hq2 : ∀ n, Calls Try.prog 71 #[.slice s.wa s.waste.length s.wc] ((w.alloc (.cells (storeCells s) 43)).drewN n) fun e w' => e = .returned (.int .i64 (sumL s.waste)) ∧ w' = (w.alloc (.cells (storeCells s) 43)).drewN n := fun n => (loads_any _ _ _ _ (hwd.below (below_drewN_ _ n)) hw).mono fun _ _ ⟨a, b⟩ => ⟨a, b.symm⟩
  go_big_quiet (first | (go_at_call_of 71 (Value.slice s.ua s.used.length s.uc); exact Calls.quiet_of_same (hq1 _)) | (go_at_call 71; exact Calls.quiet_of_same (hq2 _)))
  go_wp2
  go_loopw [3, 4] (fun v j wr => ∃ k : Nat, v = .int .i64 (sumL s.used + sumL s.waste + heapsL (s.heaps.take k)) ∧ j = .int .i64 k ∧ k ≤ s.heaps.length ∧ w.heap.size < wr.heap.size ∧ Hid (wr.heap[w.heap.size]? = some (.cells (storeCells s) 43 (0, 0))) ∧ Hid (Below w.heap.size w wr)) (fun _ j _ => s.heaps.length - (intOf j).toNat)
  case atStart => exact ⟨0, by simp [heapsL], rfl, by omega, by show _ < (w.alloc _).heap.size; simp, hS0, hb0.out.trans (below_drewN_ _ _)⟩
  case round =>
    obtain ⟨k, rfl, rfl, hk, hsz, hS, hB⟩ := hrel
    obtain ⟨s0, s1, s2, s3, s4, s5⟩ := six_cells hS.out
    obtain ⟨t1, t2⟩ := hm.take k
    obtain ⟨b1, b2⟩ := heapsL_bounds t1
    by_cases hlt : k < s.heaps.length
    · obtain ⟨ad, hA, p0, p1, p2, p3, p4, p5, p6⟩ := (FlatRow.below h.heaps.1 hB.out).at7 hlt rfl
      obtain ⟨hp, _⟩ := h.heaps.2 _ (List.getElem_mem hlt)
      have hmk := hm.2 _ (List.getElem_mem hlt)
      have hs := heapsL_take s.heaps k hlt
      obtain ⟨q1, q2⟩ := hmk.sum
      have hs := Lib.hid hs
      rw [hA] at s3
      go_wp2_with (go_at_call 71; refine (loads_any _ _ _ _ (hp.below hB.out) hmk).mono ?_; rintro e w' ⟨rfl, rfl⟩)
      exact ⟨⟨k + 1, by rw [hs.out, Int.add_assoc], by go_num, by omega, hsz, hS, hB⟩, by simp only [intOf]; omega⟩
    · have hke : k = s.heaps.length := by omega
      subst hke
      go_wp2
      refine bodyPost_ret (v := .int .i64 (sumL s.used + sumL s.waste + heapsL (s.heaps.take s.heaps.length))) (by simp [results, Try.results89, go_sem]) rfl ⟨by rw [List.take_length]; rfl, hB.out⟩

end Go.Proofs.Ytpgkhlpepckfgaa
