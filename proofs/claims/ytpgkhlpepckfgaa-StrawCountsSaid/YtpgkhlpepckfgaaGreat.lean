/-
  Great: whether a farm is too great for the laws.
-/
import Derived.Test.YtpgkhlpepckfgaaChoose
import Derived.LoopTactic
import Derived.Deep.QuietTactic
namespace Go.Proofs.Ytpgkhlpepckfgaa
open Go.RowKit Go.Lib

set_option maxHeartbeats 1000000 in
set_option maxRecDepth 100000 in
theorem great_any (A : Option Addr) (c : Nat) (l : List Plot) (dry : Int) (w : World) (h : RdPlots w A l) :
    Calls Try.prog 16 #[.agg #[.slice A l.length c, .int .i64 dry]] w fun e w' => (∃ b : Bool, e = .returned (.bool b) ∧ (b = false → l.length ≤ 30)) ∧ Below w.heap.size w w' := by
  have hl := h.1.1
  go_enter Try.func16, Try.ntmps16
  go_wp2
  go_loopw [3, 4] (fun s i wr => ∃ (x : Int) (k : Nat), s = .int .i64 x ∧ i = .int .i64 k ∧ k ≤ l.length ∧ wr.cell? ⟨w.heap.size, 0, none⟩ = some (.slice A l.length c) ∧ w.heap.size < wr.heap.size ∧ Below w.heap.size w wr) (fun _ i _ => l.length - (intOf i).toNat)
  case atStart => exact ⟨0, 0, rfl, rfl, by omega, cell_of_two (heap_new _ _ _ rfl), by simp, (Below.refl _ w).alloc (Nat.le_refl _) _⟩
  case round =>
    obtain ⟨x, k, rfl, rfl, hk, y1, z1, hB⟩ := hrel
    have hB := Lib.hid hB
    by_cases h30 : k ≤ 30
    · by_cases hlt : k < l.length
      · obtain ⟨ad, hA, p0, p1, p2, p3, p4, p5, p6, p7, p8⟩ := (h.1.below hB.out).at9 hlt rfl
        subst hA
        go_wp2
        exact ⟨⟨_, k + 1, rfl, by go_num, by omega, y1, z1, hB.out⟩, by simp only [intOf]; omega⟩
      · go_wp2
        refine bodyPost_ret (v := .bool (decide ((30 : Int) < l.length) || decide (2000 < x))) (by simp [results, Try.results16, go_sem]) rfl ⟨⟨_, rfl, ?_⟩, hB.out⟩
        intro hb
        simp at hb
        omega
    · by_cases h31 : 30 < l.length
      · have hk' : Hid (k ≤ l.length) := hk
        by_cases hlt : k < l.length
        · go_wp2
          refine bodyPost_ret (v := .bool true) (by simp [results, Try.results16, go_sem]) rfl ⟨.inr rfl, hB.out⟩
        · go_wp2
          refine bodyPost_ret (v := .bool true) (by simp [results, Try.results16, go_sem]) rfl ⟨.inr rfl, hB.out⟩
      · exfalso; omega
end Go.Proofs.Ytpgkhlpepckfgaa
