/-
  thatchlaw02's example, which every statement of the layer asks last.
-/
import Derived.Test.YtpgkhlpepckfgaaChoose
import Derived.Outline
namespace Go.Proofs.Ytpgkhlpepckfgaa
open Go.RowKit Go.Lib Go.Maps

def fen : Plot := ⟨⟨#[102, 101, 110]⟩, 1, 4, ⟨10, 12⟩, 2, ⟨200, 300⟩, 50⟩
def hill : Plot := ⟨⟨#[104, 105, 108, 108]⟩, 2, 2, ⟨5, 9⟩, 1, ⟨100, 140⟩, 20⟩

set_option maxHeartbeats 1000000 in
theorem farm_any (w : World) : Calls Try.prog 37 #[] w fun e w' => ∃ A c, e = .returned (.agg #[.slice A 2 c, .int .i64 150]) ∧ RdPlots w' A [fen, hill] ∧ Below w.heap.size w w' := by
  go_enter Try.func37, Try.ntmps37
  go_wp2
  refine bodyPost_ret (v := .agg #[.slice (some ⟨w.heap.size + 1, 0, none⟩) 2 2, .int .i64 150]) (by simp [results, Try.results37, go_sem]) rfl ⟨_, 2, rfl, ⟨flatRow_block (enc := encPlot) (sz := 9) (l := [fen, hill]) (t := 88) (fun _ => rfl) (heap_new _ _ _ (World.size_alloc _ _).symm) (by decide), fun p hp => ?_⟩, ((Below.refl _ w).alloc (Nat.le_refl _) _).alloc (by simp) _⟩
  simp only [List.mem_cons, List.not_mem_nil, or_false] at hp
  rcases hp with rfl | rfl <;> decide
theorem choose_example : (chooseP [fen, hill] 150 ⟨30, 10, 0⟩).1.found = true ∧ (chooseP [fen, hill] 150 ⟨30, 10, 0⟩).1.cost = 70 ∧ (chooseP [fen, hill] 150 ⟨30, 10, 0⟩).1.choice = [0, 1] ∧ (chooseP [fen, hill] 150 ⟨30, 10, 0⟩).2 = 0 := by decide +kernel

theorem choose_lives (A : Option Addr) (c : Nat) (w : World) (h : RdPlots w A [fen, hill]) : Calls Try.prog 18 #[.agg #[.slice A 2 c, .int .i64 150], .agg #[.int .i64 30, .int .i64 10, .int .i64 0]] w fun e w' =>
    ∃ A' c', e = .returned (.tuple #[.slice A' 2 c', .int .i64 70, .bool true, .int .i64 0]) ∧ RdInts w' A' [0, 1] ∧ Below w.heap.size w w' :=
  (choose_any A c [fen, hill] 150 ⟨30, 10, 0⟩ w h).mono (by
    obtain ⟨h1, h2, h3, h4⟩ := choose_example
    rintro e w' ⟨A', c', rfl, hr, hb⟩
    rw [h3] at hr ⊢
    rw [h1, h2, h4]
    exact ⟨A', c', rfl, hr, hb⟩)

set_option maxHeartbeats 1000000 in
set_option maxRecDepth 100000 in
theorem lives_any (w : World) : Calls Try.prog 17 #[] w fun e w' => e = .returned (.bool true) ∧ Below w.heap.size w w' := by
  go_enter Try.func17, Try.ntmps17
  go_wp2_with (first | (go_at_call 37; refine (farm_any _).mono ?_; rintro e w1 ⟨A, c, rfl, hr, hb1⟩) | (go_at_call 18; refine (choose_lives A c _ hr).mono ?_; rintro e w2 ⟨A2, c2, rfl, hr2, hb2⟩; obtain ⟨ad, rfl, g0⟩ := hr2.at1 (i := 0) (by decide) rfl; obtain ⟨ad', e', g1⟩ := hr2.at1 (i := 1) (by decide) rfl; cases e'; have g0 : w2.cell? ad = some (.int .i64 0) := g0; have g1' : w2.cell? ⟨ad.block, ad.off + 1, none⟩ = some (.int .i64 1) := g1))
  go_ret
  exact ⟨rfl, hb1.trans (hb2.mono hb1.size)⟩
end Go.Proofs.Ytpgkhlpepckfgaa
