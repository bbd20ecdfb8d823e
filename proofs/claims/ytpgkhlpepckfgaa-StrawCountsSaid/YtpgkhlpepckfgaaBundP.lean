/-
  Of which loads a bundle is made: plain.
-/
import Derived.Test.YtpgkhlpepckfgaaRCut
import Derived.Test.YtpgkhlpepckfgaaSIdx
import Derived.Test.YtpgkhlpepckfgaaSCheck
import Derived.Test.YtpgkhlpepckfgaaSStored
namespace Go.Proofs.Ytpgkhlpepckfgaa
open Go.RowKit Go.Lib

theorem restL_append (a b : List (Bool × Portion)) : restL (a ++ b) = restL a ++ restL b := by simp [restL]
theorem restL_step (p : Portion) (r : Int) : restL (stepP p r) = if min r p.loads < p.loads then [⟨p.plot, p.loads - min r p.loads⟩] else [] := by
  unfold stepP restL
  split <;> split <;> simp
theorem cutR_mild : ∀ (l : List Portion) (r : Int), 0 ≤ r → (∀ p ∈ l, 0 ≤ p.loads ∧ p.loads ≤ 100000) → (cutR l r).length ≤ l.length ∧ ∀ p ∈ cutR l r, 0 ≤ p.loads ∧ p.loads ≤ 100000
  | [], r, _, _ => by simp [cutR, takenL, restL]
  | p :: l, r, h0, h => by
    have hp := h p (by simp)
    obtain ⟨i1, i2⟩ := cutR_mild l (r - min r p.loads) (by omega) (fun q hq => h q (by simp [hq]))
    unfold cutR at i1 i2 ⊢
    simp only [takenL]
    rw [restL_append, restL_step]
    split
    · refine ⟨by simp; omega, fun q hq => ?_⟩
      rcases List.mem_append.1 hq with h1 | h1
      · simp only [List.mem_singleton] at h1
        subst h1
        dsimp only
        omega
      · exact i2 q h1
    · refine ⟨by simp; omega, fun q hq => i2 q (by simpa using hq)⟩
theorem Mild.cutR {l : List Portion} (h : Mild l) {r : Int} (h0 : 0 ≤ r) : Mild (cutR l r) := by
  obtain ⟨a, b⟩ := cutR_mild l r h0 h.2
  exact ⟨Nat.le_trans a h.1, b⟩

/-- The parts of a bundle of a heap, and the error. -/
def bundleP (pl : List Plot) (dry : Int) (s : Store) (nm : ByteArray) (k : Int) : List Portion × Int :=
  if checkS pl dry s ≠ 0 then ([], checkS pl dry s)
  else if nameIdx nm s.heaps < 0 then ([], 7)
  else if (s.heaps.getD (nameIdx nm s.heaps).toNat default).stage ≠ 3 then ([], 8)
  else if inB k 0 (sumL (s.heaps.getD (nameIdx nm s.heaps).toNat default).parts / (s.heaps.getD (nameIdx nm s.heaps).toNat default).per - 1) = false then ([], 1)
  else (cutF (cutR (s.heaps.getD (nameIdx nm s.heaps).toNat default).parts (k * (s.heaps.getD (nameIdx nm s.heaps).toNat default).per)) (s.heaps.getD (nameIdx nm s.heaps).toNat default).per, 0)
section
variable {pl : List Plot} {dry : Int} {s : Store} {nm : ByteArray} {k : Int} {j : Nat}
theorem bundleP_bad (h : checkS pl dry s ≠ 0) : bundleP pl dry s nm k = ([], checkS pl dry s) := by unfold bundleP; rw [if_pos h]
theorem bundleP_none (h : checkS pl dry s = 0) (h2 : nameIdx nm s.heaps < 0) : bundleP pl dry s nm k = ([], 7) := by unfold bundleP; rw [if_neg (by simp [h]), if_pos h2]
theorem bundleP_state (h : checkS pl dry s = 0) (h2 : nameIdx nm s.heaps = (j : Int)) (hj : j < s.heaps.length) (h3 : s.heaps[j].stage ≠ 3) : bundleP pl dry s nm k = ([], 8) := by
  unfold bundleP; rw [if_neg (by simp [h]), if_neg (by omega), h2, Int.toNat_natCast, getD_lt _ hj, if_pos h3]
theorem bundleP_arg (h : checkS pl dry s = 0) (h2 : nameIdx nm s.heaps = (j : Int)) (hj : j < s.heaps.length) (h3 : s.heaps[j].stage = 3) (h4 : inB k 0 (sumL s.heaps[j].parts / s.heaps[j].per - 1) = false) : bundleP pl dry s nm k = ([], 1) := by
  unfold bundleP; rw [if_neg (by simp [h]), if_neg (by omega), h2, Int.toNat_natCast, getD_lt _ hj, if_neg (by simp [h3]), if_pos h4]
theorem bundleP_ok (h : checkS pl dry s = 0) (h2 : nameIdx nm s.heaps = (j : Int)) (hj : j < s.heaps.length) (h3 : s.heaps[j].stage = 3) (h4 : inB k 0 (sumL s.heaps[j].parts / s.heaps[j].per - 1) = true) : bundleP pl dry s nm k = (cutF (cutR s.heaps[j].parts (k * s.heaps[j].per)) s.heaps[j].per, 0) := by
  unfold bundleP; rw [if_neg (by simp [h]), if_neg (by omega), h2, Int.toNat_natCast, getD_lt _ hj, if_neg (by simp [h3]), if_neg (by simp [h4])]
theorem checkS_heap (h : checkS pl dry s = 0) (hj : j < s.heaps.length) : heapB pl s.heaps[j] = true := by
  have hs : storeB pl s = true := by
    unfold checkS at h
    split at h
    · exact absurd h (by assumption)
    · split at h
      · assumption
      · cases h
  rw [storeB_eq, Bool.and_eq_true, Bool.and_eq_true, Bool.and_eq_true] at hs
  have := allB_get hs.1.1.2 hj
  rw [heapAt_eq hj, Bool.and_eq_true] at this
  exact this.2
theorem bound_per {H : Heap} (h : heapB pl H = true) (h3 : H.stage = 3) : 1 ≤ H.per ∧ H.per ≤ 100 := by
  rw [heapB_eq, Bool.and_eq_true] at h
  have := h.2
  unfold heapTail at this
  rw [if_pos h3, Bool.and_eq_true] at this
  have := this.1
  simp only [inB, Bool.and_eq_true, decide_eq_true_eq] at this
  exact this
end
def BundOut (r : List Portion × Int) (w : World) (e : Ending) (w' : World) : Prop := ∃ A c, e = .returned (.tuple #[.slice A r.1.length c, .int .i64 r.2]) ∧ RdParts w' A r.1 ∧ Below w.heap.size w w'
theorem parts_nil (w : World) : RdParts w none [] := ⟨by simp, by simp⟩
end Go.Proofs.Ytpgkhlpepckfgaa
