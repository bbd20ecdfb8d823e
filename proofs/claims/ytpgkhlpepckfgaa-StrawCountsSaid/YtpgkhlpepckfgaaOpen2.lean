/-
  An argument that came in, opened: three small numbers.
-/
import Derived.Test.YtpgkhlpepckfgaaOpen
import Derived.Laws.IdiomArrays
namespace Go.Proofs.Ytpgkhlpepckfgaa
open Go.RowKit Go.Lib Go.ChangeShapes Go.WideShapes
section
variable {H : Type} {enc : TypeId × Value → H} {w : World} {base : Nat} {spare : Nat → Bool} {held : Bool}
variable {r : Reach} {b0 : Nat} {v : Value} {d : DataW H} {p : List MemPlace}
theorem cells35 : Try.prog.cellsOf 35 = 1 := by kernel_rfl
theorem cells36 : Try.prog.cellsOf 36 = 3 := by kernel_rfl
theorem trod_u16 {fuel : Nat} {c : Value} {x : DataW H × List MemPlace} (h : DataW.trod enc Try.prog w base spare held fuel 35 [c] = some x) : ∃ a : Int, c = .int .u16 a ∧ 0 ≤ a ∧ a ≤ 65535 := by
  obtain ⟨n, h1, _, h2⟩ := DataW.trod_int Try.underlying35 h
  cases h1
  simp only [Lit.wf, Bool.and_eq_true, decide_eq_true_eq] at h2
  exact ⟨n, rfl, h2.1, h2.2⟩
set_option maxRecDepth 100000 in
/-- Three numbers of two bytes each, opened. -/
theorem open_three (hv : Value.okWide Try.prog w r b0 36 v) (h : DataW.Trod enc Try.prog w base spare held 36 v d p) : ∃ a0 a1 a2 : Int, v = .agg #[.int .u16 a0, .int .u16 a1, .int .u16 a2] ∧ (0 ≤ a0 ∧ a0 ≤ 65535) ∧ (0 ≤ a1 ∧ a1 ≤ 65535) ∧ (0 ≤ a2 ∧ a2 ≤ 65535) := by
  simp only [Value.okWide, Try.underlying36] at hv
  obtain ⟨cs, rfl, hsz, _⟩ := hv
  rw [cells36] at hsz
  obtain ⟨l⟩ := cs
  match l, hsz with
  | [c0, c1, c2], _ =>
    obtain ⟨fuel, hf⟩ := h
    obtain ⟨y0, y1, y2, n, _, h0, h1, h2⟩ := trod_array3 Try.underlying36 cells35 (c0 := c0) (c1 := c1) (c2 := c2) (by simpa [Value.cells] using hf)
    obtain ⟨a0, rfl, x0⟩ := trod_u16 h0
    obtain ⟨a1, rfl, x1⟩ := trod_u16 h1
    obtain ⟨a2, rfl, x2⟩ := trod_u16 h2
    exact ⟨a0, a1, a2, rfl, x0, x1, x2⟩
end
end Go.Proofs.Ytpgkhlpepckfgaa
