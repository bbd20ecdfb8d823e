/-
  The first store of a farm: straw.New, walked.
-/
import Derived.Test.YtpgkhlpepckfgaaSNew
import Derived.Test.YtpgkhlpepckfgaaSNewB
namespace Go.Proofs.Ytpgkhlpepckfgaa
open Go.RowKit Go.Lib

set_option maxHeartbeats 1000000 in
set_option maxRecDepth 100000 in
theorem new_bad (A : Option Addr) (c : Nat) (pl : List Plot) (dry : Int) (w : World) (h : RdPlots w A pl) (hc : checkI pl dry ≠ 0) :
    Calls Try.prog 23 #[.agg #[.slice A pl.length c, .int .i64 dry]] w (NewOut pl dry w) := by
  have hl1 := h.1.1
  obtain ⟨ck, hck⟩ : ∃ ck, ck = checkI pl dry := ⟨_, rfl⟩
  have hc0 : ¬ ck = 0 := by rw [hck]; exact hc
  have hBz : Hid (Below w.heap.size w ((w.alloc (.cells #[.slice A pl.length c, .int .i64 dry] 24)).alloc (.cells #[.int .i64 0, .slice none 0 0, .slice none 0 0, .slice none 0 0, .slice none 0 0, .slice none 0 0] 43))) := ((Below.refl _ w).alloc (Nat.le_refl _) _).alloc (by simp) _
  have hca : ∀ W, RdPlots W A pl → Calls Try.prog 25 #[.agg #[.slice A pl.length c, .int .i64 dry]] W fun e w' => e = .returned (.int .i64 ck) ∧ Below W.heap.size W w' := fun W hW => hck ▸ check_any A c pl dry W hW
  replace hca := Lib.hid hca
  have hcb : (ck != 0) = true := bne_iff_ne.2 hc0
  have hck0 : Hid (checkI pl dry ≠ 0) := hc
  replace hck := Lib.hid hck
  go_enter Try.func23, Try.ntmps23
  go_wp2_with (go_at_call 25; refine (hca.out _ (h.below hBz.out)).mono ?_; rintro e w1 ⟨rfl, hb1⟩; have z1 : w.heap.size + 1 < w1.heap.size := (by have := hb1.size; simp at this; omega); have hres := (hb1.block (w.heap.size + 1) (by simp)).trans (heap_new _ _ _ (by simp)); obtain ⟨g1, g2, g3, g4, g5, g6, fz⟩ := six_of hres; replace hres := Lib.hid hres)
  obtain ⟨hfo, hnew⟩ := new_none (pl := pl) (dry := dry) hres.out (hBz.out.trans (hb1.mono hBz.out.size)) hck0.out
  obtain ⟨Wf, hWf⟩ : ∃ Wf, Wf = SS6 w1 (w.heap.size + 1) (.slice none 0 0) (.slice none 0 0) := ⟨_, rfl⟩
  rw [← hWf] at hfo hnew
  unfold SS6 at hWf
  rw [← hWf]
  obtain ⟨c0, c1, c2, c3, c4, c5, _⟩ := six_of hfo
  rw [← hck.out] at hnew
  exact bodyPost_ret (v := .tuple #[.agg #[.int .i64 0, .slice none 0 0, .slice none 0 0, .slice none 0 0, .slice none 0 0, .slice none 0 0], .int .i64 ck]) (by simp [results, Try.results23, go_sem, c0, c1, c2, c3, c4, c5]) rfl hnew

theorem new_any (A : Option Addr) (c : Nat) (pl : List Plot) (dry : Int) (w : World) (h : RdPlots w A pl) :
    Calls Try.prog 23 #[.agg #[.slice A pl.length c, .int .i64 dry]] w (NewOut pl dry w) := by
  by_cases hc : checkI pl dry = 0
  · exact new_okay A c pl dry w h hc.symm
  · exact new_bad A c pl dry w h hc
end Go.Proofs.Ytpgkhlpepckfgaa
