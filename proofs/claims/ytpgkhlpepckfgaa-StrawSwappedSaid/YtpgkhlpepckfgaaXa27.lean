/-
  The deferred closure of straw.Do: walked, entered from a panic and from a return.
-/
import Derived.Test.YtpgkhlpepckfgaaXa18
import Derived.Test.YtpgkhlpepckfgaaXa26
import Derived.Laws.Pointers
import Derived.Recover
set_option linter.all false
set_option linter.unusedVariables false
set_option linter.unusedSimpArgs false
namespace Go.Proofs.Ytpgkhlpepckfgaa
open Go.RowKit Go.Lib

/-- The results of a chore that went wrong. -/
abbrev wrongW (W : World) (b6 b7 : Nat) (e : Int) : World := ((((((W.setCell ⟨b6, 0, none⟩ (.int .i64 0)).setCell ⟨b6, 1, none⟩ (.slice none 0 0)).setCell ⟨b6, 2, none⟩ (.slice none 0 0)).setCell ⟨b6, 3, none⟩ (.slice none 0 0)).setCell ⟨b6, 4, none⟩ (.slice none 0 0)).setCell ⟨b6, 5, none⟩ (.slice none 0 0)).setCell ⟨b7, 0, none⟩ (.int .i64 e)
theorem assert30 (v : Value) (W : World) : (Instr.typeAssert (.iface 30 v) 20 30 true).run Try.prog W = .ok (.tuple #[v, .bool true]) W := by
  simp [Instr.typeAssert, run_underlying Try.underlying30, Result.andThen]
def CatchOut (b6 b7 : Nat) (e : Int) (w : World) (x : Ending) (u' : FrameMode) (w' : World) : Prop := x = .returned (.tuple #[]) ∧ settle u' = .returning ∧ w' = wrongW w b6 b7 e

set_option maxHeartbeats 2000000 in
set_option maxRecDepth 100000 in
theorem catch_panics (b6 b7 : Nat) (e : Int) (w : World) {a0 a1 a2 a3 a4 a5 x : Value} (h6 : w.heap[b6]? = some (.cells #[a0, a1, a2, a3, a4, a5] 43 (0, 0))) (h7 : w.heap[b7]? = some (.cells #[x] 30 (0, 0))) (hne : b6 ≠ b7) :
    CallsD Try.prog 73 #[ptr b6, ptr b7] (.panicking (errChain e)) w (CatchOut b6 b7 e w) := by
  obtain ⟨c0, c1, c2, c3, c4, c5⟩ := cells6 h6
  refine callsD_of_wpS Try.func73 rfl fun c₀ cs hu => ?_
  apply wpS_seq
  apply wpS_region
  simp [wpOpsS, go_sem, recoverD, hu, Try.ntmps73, Exit.thenS, errChain]
  refine wpS_of_wp ?_
  change Code.wp _ _ _ { tmps := #[ptr b6, ptr b7, .iface 30 (.int .i64 e), undef, undef, .iface 30 (.int .i64 e), undef, undef, undef, undef, undef, undef, undef, undef, undef, undef, undef, undef], defers := [] } w
  replace hu := Lib.hid hu
  have hfz : ∀ j, w.frozen? ⟨b6, j, none⟩ = false := fun j => frozen_of_row w _ j _ _ h6
  have f0 := hfz 0
  have f1 := hfz 1
  have f2 := hfz 2
  have f3 := hfz 3
  have f4 := hfz 4
  have f5 := hfz 5
  have d0 : w.cell? ⟨b7, 0, none⟩ = some x := cell_of_one h7
  have g0 : w.frozen? ⟨b7, 0, none⟩ = false := free_of_one h7
  have hne' := Ne.symm hne
  clear hfz
  have hta := assert30
  go_wp2_with fail
  exact ⟨rfl, _, rfl, _, results_none rfl _ _ _, rfl, rfl, rfl⟩
theorem catch_idle (b6 b7 : Nat) (w : World) : CallsD Try.prog 73 #[ptr b6, ptr b7] .returning w fun x u' w' => x = .returned (.tuple #[]) ∧ u' = .returning ∧ w' = w := by
  refine callsD_of_wpS Try.func73 rfl fun c₀ cs hu => ?_
  apply wpS_seq
  apply wpS_region
  simp [wpOpsS, go_sem, recoverD, hu, Try.ntmps73, Exit.thenS]
  refine wpS_of_wp ?_
  change Code.wp _ _ _ { tmps := #[ptr b6, ptr b7, .nilIface, undef, undef, .nilIface, undef, undef, undef, undef, undef, undef, undef, undef, undef, undef, undef, undef], defers := [] } w
  replace hu := Lib.hid hu
  go_wp2_with fail
  refine ⟨rfl, .returning, ?_, _, results_none rfl _ _ _, rfl, rfl, rfl⟩
  cases c₀
  have := hu.out
  simp_all
end Go.Proofs.Ytpgkhlpepckfgaa
