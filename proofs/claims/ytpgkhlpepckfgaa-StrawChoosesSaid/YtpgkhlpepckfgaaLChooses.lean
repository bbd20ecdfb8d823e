/-
  The law StrawChooses, walked.
-/
import Derived.Test.YtpgkhlpepckfgaaRChoose
import Derived.Test.YtpgkhlpepckfgaaGreat
import Derived.Test.YtpgkhlpepckfgaaLives
namespace Go.Proofs.Ytpgkhlpepckfgaa
open Go.RowKit Go.Lib

set_option maxHeartbeats 1000000 in
set_option maxRecDepth 100000 in
theorem chooses_any (A : Option Addr) (c : Nat) (l : List Plot) (dry : Int) (n : Need) (w : World) (h : RdPlots w A l) :
    Calls Try.prog 3 #[.agg #[.slice A l.length c, .int .i64 dry], .agg #[.int .i64 n.reed, .int .i64 n.straw, .int .i64 n.heather]] w fun e w' => e = .returned (.bool true) ∧ Below w.heap.size w w' := by
  have h0 := two_below w #[.slice A l.length c, .int .i64 dry] #[.int .i64 n.reed, .int .i64 n.straw, .int .i64 n.heather]
  have hl := h.below h0
  have h0 := Lib.hid h0
  have heq := chooseR_eq l dry n
  have hx : (decide (true = true)) = true := rfl
  go_enter Try.func3, Try.ntmps3
  go_wp2_with (first | (go_at_call 16; refine (great_any _ _ _ _ _ hl).mono ?_; rintro e w1 ⟨⟨b, rfl, _⟩, hb1⟩; obtain ⟨hz1, hF, hN⟩ := two_cells w _ _ hb1; obtain ⟨n1, n2, n3⟩ := cells_three hN; obtain ⟨g1, g2⟩ := cells_two hF) | (go_at_call 17; refine (lives_any _).mono ?_; rintro e wL ⟨rfl, hbL⟩) | (go_at_call 18; refine (choose_any _ _ _ _ n _ (hl.below hb1)).mono ?_; rintro e w2 ⟨A2, c2, rfl, hR2, hb2⟩; have hb12 := hb1.trans (hb2.mono hb1.size); obtain ⟨hz2, hF2, hN2⟩ := two_cells w _ _ hb12; obtain ⟨n1', n2', n3'⟩ := cells_three hN2; obtain ⟨g1', g2'⟩ := cells_two hF2) | (go_at_call 19; refine (rchoose_any _ _ _ _ n _ (hl.below hb12)).mono ?_; rw [heq]; rintro e w3 ⟨A3, c3, rfl, hR3, hb3⟩) | (go_at_call 20; refine (sameInts_any _ _ _ _ (chooseP l dry n).1.choice (chooseP l dry n).1.choice _ (hR2.below hb3) hR3).mono ?_; rintro e w4 ⟨rfl, hb4⟩))
  · refine bodyPost_ret (v := .bool true) (by simp [results, Try.results3, go_sem]) rfl ⟨rfl, h0.out.trans ((hb1.trans (hbL.mono hb1.size)).mono h0.out.size)⟩
  · have b3 := hb12.trans (hb3.mono hb12.size)
    have b4 := b3.trans (hb4.mono b3.size)
    refine bodyPost_ret (v := .bool true) (by simp [results, Try.results3, go_sem]) rfl ⟨rfl, h0.out.trans ((b4.trans (hbL.mono b4.size)).mono h0.out.size)⟩
end Go.Proofs.Ytpgkhlpepckfgaa
