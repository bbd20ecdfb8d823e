/-
  What is returned beside an error; six cells of one block.
-/
import Derived.Test.YtpgkhlpepckfgaaSNewA
namespace Go.Proofs.Ytpgkhlpepckfgaa
open Go.RowKit Go.Lib

abbrev SS6 (W : World) (b : Nat) (v1 v2 : Value) : World := (((((W.setCell ⟨b, 0, none⟩ (.int .i64 0)).setCell ⟨b, 1, none⟩ v1).setCell ⟨b, 2, none⟩ v2).setCell ⟨b, 3, none⟩ (.slice none 0 0)).setCell ⟨b, 4, none⟩ (.slice none 0 0)).setCell ⟨b, 5, none⟩ (.slice none 0 0)
/-- A store that is no store: what is returned beside an error. -/
theorem new_none {pl : List Plot} {dry : Int} {w W : World} {a0 a1 a2 a3 a4 a5 : Value} (hb : W.heap[w.heap.size + 1]? = some (.cells #[a0, a1, a2, a3, a4, a5] 43 (0, 0))) (hB : Below w.heap.size w W) (hck : checkI pl dry ≠ 0) :
    (SS6 W (w.heap.size + 1) (.slice none 0 0) (.slice none 0 0)).heap[w.heap.size + 1]? = some (.cells #[.int .i64 0, .slice none 0 0, .slice none 0 0, .slice none 0 0, .slice none 0 0, .slice none 0 0] 43 (0, 0)) ∧
    NewOut pl dry w (.returned (.tuple #[.agg #[.int .i64 0, .slice none 0 0, .slice none 0 0, .slice none 0 0, .slice none 0 0, .slice none 0 0], .int .i64 (checkI pl dry)])) (SS6 W (w.heap.size + 1) (.slice none 0 0) (.slice none 0 0)) := by
  refine ⟨set6 _ _ _ _ _ _ hb, ⟨0, [], [], [], [], [], none, 0, none, 0, none, 0, none, 0, none, 0⟩, rfl, ?_, ?_, set6_below _ _ _ _ _ _ hB (by omega)⟩
  · exact ⟨⟨by simp, by simp⟩, ⟨by simp, by simp⟩, ⟨⟨by simp, by simp⟩, by simp⟩, ⟨by simp, by simp⟩, ⟨by simp, by simp⟩⟩
  · unfold newS; rw [if_neg hck]; exact ⟨rfl, rfl, rfl, rfl, rfl, rfl, fun i h1 _ => absurd h1 (Nat.not_lt_zero _)⟩
theorem six_of {w : World} {b : Nat} {v0 v1 v2 v3 v4 v5 : Value} {t : TypeId} (h : w.heap[b]? = some (.cells #[v0, v1, v2, v3, v4, v5] t (0, 0))) : w.cell? ⟨b, 0, none⟩ = some v0 ∧ w.cell? ⟨b, 1, none⟩ = some v1 ∧ w.cell? ⟨b, 2, none⟩ = some v2 ∧ w.cell? ⟨b, 3, none⟩ = some v3 ∧ w.cell? ⟨b, 4, none⟩ = some v4 ∧ w.cell? ⟨b, 5, none⟩ = some v5 ∧ ∀ o, w.frozen? ⟨b, o, none⟩ = false := by
  refine ⟨?_, ?_, ?_, ?_, ?_, ?_, fun o => frozen_four h o⟩ <;> simp [World.cell?, h]
end Go.Proofs.Ytpgkhlpepckfgaa
