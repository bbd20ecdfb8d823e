/-
  The first store of a farm: straw.New, walked.
-/
import Derived.Test.YtpgkhlpepckfgaaSNewA
namespace Go.Proofs.Ytpgkhlpepckfgaa
open Go.RowKit Go.Lib

set_option maxHeartbeats 2000000 in
set_option maxRecDepth 100000 in
theorem new_okay (A : Option Addr) (c : Nat) (pl : List Plot) (dry : Int) (w : World) (h : RdPlots w A pl) (hck : 0 = checkI pl dry) :
    Calls Try.prog 23 #[.agg #[.slice A pl.length c, .int .i64 dry]] w (NewOut pl dry w) := by
  have hl1 := h.1.1
  · have hlen : pl.length ≤ 1000000 := by have := (checkI_zero hck.symm).1; omega
    have hmk := make_cnt pl.length hlen
    have hca : ∀ W, RdPlots W A pl → Calls Try.prog 25 #[.agg #[.slice A pl.length c, .int .i64 dry]] W fun e w' => e = .returned (.int .i64 0) ∧ Below W.heap.size W w' := fun W hW => hck ▸ check_any A c pl dry W hW
    replace hca := Lib.hid hca
    replace hck := Lib.hid hck.symm
    go_enter Try.func23, Try.ntmps23
    go_wp2_with (go_at_call 25; refine (hca.out _ (h.below (((Below.refl _ w).alloc (Nat.le_refl _) _).alloc (by simp) _))).mono ?_; rintro e w1 ⟨rfl, hb1⟩; obtain ⟨r1, s1⟩ := bcell hb1)
    obtain ⟨B1, hB1⟩ : ∃ B1, B1 = w1.heap.size := ⟨_, rfl⟩
    have z1 : w.heap.size + 1 < w1.heap.size := by have := hb1.size; simp at this; omega
    have z0 : w.heap.size < w1.heap.size := by omega
    have d0 : w1.cell? ⟨w.heap.size, 0, none⟩ = some (.slice A pl.length c) := by go_simp
    have hblk : w1.heap[w.heap.size + 1]? = some (.cells #[.int .i64 0, .slice none 0 0, .slice none 0 0, .slice none 0 0, .slice none 0 0, .slice none 0 0] 43 (0, 0)) := (hb1.block _ (by simp)).trans (heap_new _ _ _ (by simp))
    obtain ⟨e0, e1, e2, e3, e4, e5⟩ : w1.cell? ⟨w.heap.size + 1, 0, none⟩ = some (.int .i64 0) ∧ w1.cell? ⟨w.heap.size + 1, 1, none⟩ = some (.slice none 0 0) ∧ w1.cell? ⟨w.heap.size + 1, 2, none⟩ = some (.slice none 0 0) ∧ w1.cell? ⟨w.heap.size + 1, 3, none⟩ = some (.slice none 0 0) ∧ w1.cell? ⟨w.heap.size + 1, 4, none⟩ = some (.slice none 0 0) ∧ w1.cell? ⟨w.heap.size + 1, 5, none⟩ = some (.slice none 0 0) := by
      refine ⟨?_, ?_, ?_, ?_, ?_, ?_⟩ <;> simp [World.cell?, hblk]
    have fz : ∀ o, w1.frozen? ⟨w.heap.size + 1, o, none⟩ = false := fun o => frozen_four hblk o
    replace hblk := Lib.hid hblk
    replace hB1 := Lib.hid hB1
    clear r1 s1
    have hBw := Lib.hid ((((Below.refl _ w).alloc (Nat.le_refl _) (.cells #[.slice A pl.length c, .int .i64 dry] 24)).alloc (by simp) (.cells #[.int .i64 0, .slice none 0 0, .slice none 0 0, .slice none 0 0, .slice none 0 0, .slice none 0 0] 43)).trans (hb1.mono (by simp; omega)))
    go_region_with (go_at_call 52; first | ((with_reducible refine (repeat_any _ pl.length _ (drew_new _ _ _ rfl) hlen).mono ?_); rintro e w2 ⟨rfl, hr2, hb2⟩; simp only [World.size_drew, World.size_alloc] at hr2; replace hr2 := Lib.hid hr2; obtain ⟨r2, s2⟩ := bcell hb2; have z2 : w.heap.size + 1 < w2.heap.size := (by have := hb2.size; simp only [World.size_alloc, World.size_drew] at this; omega)) | ((with_reducible refine (repeat_any _ pl.length _ (drew_old _ _ _ _ (heap_new _ _ _ rfl)) hlen).mono ?_); rintro e w2 ⟨rfl, hr2, hb2⟩; simp only [World.size_drew, World.size_alloc] at hr2; replace hr2 := Lib.hid hr2; obtain ⟨r2, s2⟩ := bcell hb2; have z2 : w.heap.size + 1 < w2.heap.size := (by have := hb2.size; simp only [World.size_alloc, World.size_drew] at this; omega)) | ((with_reducible refine (repeat_any _ pl.length _ (drew_new _ _ _ (by simp)) hlen).mono ?_); rintro e w2 ⟨rfl, hr2, hb2⟩; simp only [World.size_drew, World.size_alloc] at hr2; replace hr2 := Lib.hid hr2; obtain ⟨r2, s2⟩ := bcell hb2; have z2 : w.heap.size + 1 < w2.heap.size := (by have := hb2.size; simp only [World.size_alloc, World.size_drew] at this; omega)))
    all_goals go_wp2
    all_goals first
      | (obtain ⟨Wf, hWf⟩ : ∃ Wf, Wf = (S6 w2 (w.heap.size + 1) pl.length (w1.heap.size + 1) w2.heap.size).alloc (.cells (cntRow pl.length fun _ => 0) 3) := ⟨_, rfl⟩
         have F : NewFin w pl.length Wf (w1.heap.size + 1) (w2.heap.size) := by rw [hWf]; exact newfin_A hr2.out ((hb2.block _ (by simp; omega)).trans (drew_old _ _ _ _ hblk.out)) (hBw.out.trans ((((Below.refl _ w1).alloc (Nat.le_refl _) _).drew.trans (hb2.mono (by simp))).mono hBw.out.size)) (by omega)
         unfold S6 at hWf
         rw [← hWf]
         replace hWf := Lib.hid hWf
         exact new_close F hck.out hlen rfl rfl rfl)
      | (obtain ⟨Wf, hWf⟩ : ∃ Wf, Wf = S6 w2 (w.heap.size + 1) pl.length (w1.heap.size + 1 + 1) (w1.heap.size + 1) := ⟨_, rfl⟩
         have F : NewFin w pl.length Wf (w1.heap.size + 1 + 1) (w1.heap.size + 1) := by rw [hWf]; exact newfin_B hr2.out ((hb2.block _ (by simp)).trans (drew_old _ _ _ _ (heap_new _ _ _ (by simp)))) ((hb2.block _ (by simp; omega)).trans (drew_old _ _ _ _ (heap_old _ _ _ _ hblk.out))) (hBw.out.trans (((((Below.refl _ w1).alloc (Nat.le_refl _) _).alloc (by simp) _).drew.trans (hb2.mono (by simp; omega))).mono hBw.out.size)) (by omega) (by omega)
         unfold S6 at hWf
         rw [← hWf]
         replace hWf := Lib.hid hWf
         exact new_close F hck.out hlen rfl rfl rfl)
      | (obtain ⟨Wf, hWf⟩ : ∃ Wf, Wf = S6 w2 (w.heap.size + 1) pl.length (w1.heap.size + 1 + 1) (w1.heap.size + 1) := ⟨_, rfl⟩
         have F : NewFin w pl.length Wf (w1.heap.size + 1 + 1) (w1.heap.size + 1) := by rw [hWf]; exact newfin_B hr2.out ((hb2.block _ (by simp)).trans (drew_new _ _ _ (by simp))) ((hb2.block _ (by simp; omega)).trans (drew_old _ _ _ _ (heap_old _ _ _ _ hblk.out))) (hBw.out.trans (((((Below.refl _ w1).alloc (Nat.le_refl _) _).alloc (by simp) _).drew.trans (hb2.mono (by simp; omega))).mono hBw.out.size)) (by omega) (by omega)
         unfold S6 at hWf
         rw [← hWf]
         replace hWf := Lib.hid hWf
         exact new_close F hck.out hlen rfl rfl rfl)
      | (obtain ⟨Wf, hWf⟩ : ∃ Wf, Wf = S6 w2 (w.heap.size + 1) pl.length (w1.heap.size + 1 + 1) w1.heap.size := ⟨_, rfl⟩
         have F : NewFin w pl.length Wf (w1.heap.size + 1 + 1) (w1.heap.size) := by rw [hWf]; exact newfin_B hr2.out ((hb2.block _ (by simp; omega)).trans (drew_old _ _ _ _ (heap_new _ _ _ rfl))) ((hb2.block _ (by simp; omega)).trans (drew_old _ _ _ _ (heap_old _ _ _ _ hblk.out))) (hBw.out.trans (((((Below.refl _ w1).alloc (Nat.le_refl _) _).alloc (by simp) _).drew.trans (hb2.mono (by simp; omega))).mono hBw.out.size)) (by omega) (by omega)
         unfold S6 at hWf
         rw [← hWf]
         replace hWf := Lib.hid hWf
         exact new_close F hck.out hlen rfl rfl rfl)
end Go.Proofs.Ytpgkhlpepckfgaa
