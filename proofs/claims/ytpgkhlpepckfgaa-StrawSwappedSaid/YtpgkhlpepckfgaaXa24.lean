/-
  That a name may be that of a new heap: fresh, walked; a year goes by; what rots.
-/
import Derived.Test.YtpgkhlpepckfgaaXa21
import Derived.Deep.RegionHeld3
set_option linter.all false
set_option linter.unusedVariables false
set_option linter.unusedSimpArgs false
namespace Go.Proofs.Ytpgkhlpepckfgaa
open Go.RowKit Go.Lib

set_option maxHeartbeats 1000000 in
set_option maxRecDepth 100000 in
theorem fresh_ok (b : Nat) (hA : Option Addr) (hc : Nat) (l : List Heap) (nm : ByteArray) (w : World) (h5 : w.cell? ⟨b, 5, none⟩ = some (.slice hA l.length hc)) (hl : RdHeaps w hA l) (hs : nm.size ≤ 9223372036854775807) (hn : nameB nm = true) (hi : nameIdx nm l < 0) :
    Calls Try.prog 121 #[ptr b, .string nm] w fun e w' => e = .returned (.tuple #[]) ∧ Below w.heap.size w w' := by
  have hbl : b < w.heap.size := World.block_lt_of_cell? w _ h5
  obtain ⟨w1, hw1⟩ : ∃ w1, w1 = w.alloc (.cells #[.string nm] 9) := ⟨_, rfl⟩
  have hb0 : Below w.heap.size w w1 := by rw [hw1]; exact (Below.refl _ w).alloc (Nat.le_refl _) _
  have hnb := (Array.getElem?_eq_some_iff.1 (show w1.heap[w.heap.size]? = some (.cells #[.string nm] 9 (0, 0)) by rw [hw1]; exact heap_new _ _ _ rfl)).1
  have hn1 : w1.cell? ⟨w.heap.size, 0, none⟩ = some (.string nm) := by rw [hw1]; exact cell_of_one (heap_new _ _ _ rfl)
  have h51 : w1.cell? ⟨b, 5, none⟩ = some (.slice hA l.length hc) := (hb0.cell (p := ⟨b, 5, none⟩) hbl).trans h5
  have hbl1 : b < w1.heap.size := World.block_lt_of_cell? w1 _ h51
  have hin := isName_any nm w1 hs
  rw [hn] at hin
  have hcl := fun W (hW : Below w1.heap.size w1 W) => containsH_any hA hc l nm w.heap.size W ((hW.cell (p := ⟨w.heap.size, 0, none⟩) hnb).trans hn1) (hl.below (hb0.trans (hW.mono hb0.size)))
  rw [show decide (0 ≤ nameIdx nm l) = false from decide_eq_false (by omega)] at hcl
  have hmf := makeFunc_run
  replace hcl := Lib.hid hcl
  replace hin := Lib.hid hin
  go_enter Try.func121, Try.ntmps121
  go_wp2_with fail
  rw [← hw1]
  replace hw1 := Lib.hid hw1
  replace hb0 := Lib.hid hb0
  go_wp2_with (first | (go_at_call 53; refine hin.out.mono ?_; rintro e w2 ⟨rfl, hb1⟩; obtain ⟨rb, sb⟩ := bcell hb1) | (go_at_call 127; refine (hcl.out _ hb1).mono ?_; rintro e w4 ⟨rfl, hb2⟩) | (go_at_call 75; (with_reducible refine (demand_ok _ _).mono ?_); rintro e w3 ⟨rfl, rfl⟩))
  go_end0
  exact ⟨rfl, hb0.out.trans ((hb1.mono hb0.out.size).trans (hb2.mono (Nat.le_trans hb0.out.size hb1.size)))⟩
set_option maxHeartbeats 1000000 in
set_option maxRecDepth 100000 in
theorem fresh_twice (b : Nat) (hA : Option Addr) (hc : Nat) (l : List Heap) (nm : ByteArray) (w : World) (h5 : w.cell? ⟨b, 5, none⟩ = some (.slice hA l.length hc)) (hl : RdHeaps w hA l) (hs : nm.size ≤ 9223372036854775807) (hn : nameB nm = true) (hi : 0 ≤ nameIdx nm l) :
    Calls Try.prog 121 #[ptr b, .string nm] w fun e w' => e = .panicked (errChain 6) ∧ Below w.heap.size w w' := by
  have hbl : b < w.heap.size := World.block_lt_of_cell? w _ h5
  obtain ⟨w1, hw1⟩ : ∃ w1, w1 = w.alloc (.cells #[.string nm] 9) := ⟨_, rfl⟩
  have hb0 : Below w.heap.size w w1 := by rw [hw1]; exact (Below.refl _ w).alloc (Nat.le_refl _) _
  have hnb := (Array.getElem?_eq_some_iff.1 (show w1.heap[w.heap.size]? = some (.cells #[.string nm] 9 (0, 0)) by rw [hw1]; exact heap_new _ _ _ rfl)).1
  have hn1 : w1.cell? ⟨w.heap.size, 0, none⟩ = some (.string nm) := by rw [hw1]; exact cell_of_one (heap_new _ _ _ rfl)
  have h51 : w1.cell? ⟨b, 5, none⟩ = some (.slice hA l.length hc) := (hb0.cell (p := ⟨b, 5, none⟩) hbl).trans h5
  have hbl1 : b < w1.heap.size := World.block_lt_of_cell? w1 _ h51
  have hin := isName_any nm w1 hs
  rw [hn] at hin
  have hcl := fun W (hW : Below w1.heap.size w1 W) => containsH_any hA hc l nm w.heap.size W ((hW.cell (p := ⟨w.heap.size, 0, none⟩) hnb).trans hn1) (hl.below (hb0.trans (hW.mono hb0.size)))
  rw [show decide (0 ≤ nameIdx nm l) = true from decide_eq_true hi] at hcl
  have hmf := makeFunc_run
  replace hcl := Lib.hid hcl
  replace hin := Lib.hid hin
  go_enter Try.func121, Try.ntmps121
  go_wp2_with fail
  rw [← hw1]
  replace hw1 := Lib.hid hw1
  replace hb0 := Lib.hid hb0
  go_wp2_with (first | (go_at_call 53; refine hin.out.mono ?_; rintro e w2 ⟨rfl, hb1⟩; obtain ⟨rb, sb⟩ := bcell hb1) | (go_at_call 127; refine (hcl.out _ hb1).mono ?_; rintro e w4 ⟨rfl, hb2⟩) | (go_at_call 75; (with_reducible refine (demand_ok _ _).mono ?_); rintro e w3 ⟨rfl, rfl⟩) | (go_at_call 75; (with_reducible refine (demand_no _ _).mono ?_); rintro e w3 ⟨rfl, rfl⟩))
  exact ⟨rfl, rfl, hb0.out.trans ((hb1.mono hb0.out.size).trans (hb2.mono (Nat.le_trans hb0.out.size hb1.size)))⟩
set_option maxHeartbeats 1000000 in
set_option maxRecDepth 100000 in
theorem fresh_name (b : Nat) (nm : ByteArray) (w : World) (hs : nm.size ≤ 9223372036854775807) (hn : nameB nm = false) :
    Calls Try.prog 121 #[ptr b, .string nm] w fun e w' => e = .panicked (errChain 5) ∧ Below w.heap.size w w' := by
  obtain ⟨w1, hw1⟩ : ∃ w1, w1 = w.alloc (.cells #[.string nm] 9) := ⟨_, rfl⟩
  have hb0 : Below w.heap.size w w1 := by rw [hw1]; exact (Below.refl _ w).alloc (Nat.le_refl _) _
  have hn1 : w1.cell? ⟨w.heap.size, 0, none⟩ = some (.string nm) := by rw [hw1]; exact cell_of_one (heap_new _ _ _ rfl)
  have hin := isName_any nm w1 hs
  rw [hn] at hin
  replace hin := Lib.hid hin
  go_enter Try.func121, Try.ntmps121
  go_wp2_with fail
  rw [← hw1]
  replace hw1 := Lib.hid hw1
  replace hb0 := Lib.hid hb0
  go_wp2_with (first | (go_at_call 53; refine hin.out.mono ?_; rintro e w2 ⟨rfl, hb1⟩) | (go_at_call 75; (with_reducible refine (demand_no _ _).mono ?_); rintro e w3 ⟨rfl, rfl⟩))
  exact ⟨rfl, rfl, hb0.out.trans (hb1.mono hb0.out.size)⟩

theorem demand_on (e : Int) (w : World) : Calls Try.prog 75 #[.bool true, .int .i64 e] w fun x w' => x = .returned (.tuple #[]) ∧ w = w' := (demand_ok e w).mono fun _ _ ⟨a, b⟩ => ⟨a, b.symm⟩
/-- demand at a false test, for a region that draws its order: the way on is left, at a False. -/
theorem demand_dies (e : Int) (w : World) {R : Ending → World → Prop} (hp : R (.panicked (errChain e)) w) (_ : Hid False → R (.returned (.tuple #[])) w) : Calls Try.prog 75 #[.bool false, .int .i64 e] w R :=
  (demand_no e w).mono (by rintro _ _ ⟨rfl, rfl⟩; exact hp)
/-- What a chore ends in: an error as a panic, or a store that is as told. -/
def ShedOut (B b : Nat) (A : Option Addr) (n c : Nat) (dry : Int) (r : Int × Store) (W : World) (e : Ending) (w' : World) : Prop :=
  Below B W w' ∧ ((r.1 ≠ 0 ∧ e = .panicked (errChain r.1)) ∨ (r.1 = 0 ∧ e = .returned (.tuple #[]) ∧ ∃ t, SameC t r.2 ∧ Own B b A n c dry t w'))

set_option maxHeartbeats 1000000 in
set_option maxRecDepth 100000 in
theorem year_any (B b : Nat) (A : Option Addr) (n c : Nat) (dry : Int) (s : Store) (a : Chore) (W : World) (h : Own B b A n c dry s W) (hy : 0 ≤ s.year ∧ s.year ≤ 100) :
    Calls Try.prog 91 #[ptr b, choreVal a] W (ShedOut B b A n c dry (yearP s) W) := by
  obtain ⟨W1, hW1⟩ : ∃ W1, W1 = W.alloc (.cells (choreCells a) 64) := ⟨_, rfl⟩
  have hb0 : Below W.heap.size W W1 := by rw [hW1]; exact (Below.refl _ W).alloc (Nat.le_refl _) _
  obtain ⟨e0, e1, e2, e3, e4, e5, e6, e7⟩ := eight_cells h.box
  have hbl := h.size
  have f2 := h.frozen 2
  have hB := h.bLe
  have h1 := Lib.hid (h.later hb0)
  obtain ⟨d0, d1, d2, d3, d4, d5, d6, d7⟩ := eight_cells h1.out.box
  have k2 := h1.out.frozen 2
  have hbl1 := h1.out.size
  replace hb0 := Lib.hid hb0
  replace hW1 := Lib.hid hW1
  by_cases hlt : s.year < 100
  · have hr : Hid (yearP s = (0, { s with year := s.year + 1 })) := by unfold Hid yearP; rw [if_pos hlt]
    have ht : decide (s.year < 100) = true := decide_eq_true hlt
    have hw1 : IntKind.i64.wrap (s.year + 1) = s.year + 1 := IntWalk.i64_in _ (by omega)
    go_enter Try.func91, Try.ntmps91
    go_wp2_with fail
    rw [← hW1.out]
    go_wp2_with (go_at_call 75; (with_reducible refine (demand_ok _ _).mono ?_); rintro e w3 ⟨rfl, rfl⟩)
    go_end0
    have hf := h1.out.yearTo (s.year + 1)
    rw [hr.out]
    exact ⟨(hb0.out.mono hB).trans hf.2, .inr ⟨rfl, rfl, _, SameC.refl _, hf.1⟩⟩
  · have hr : Hid (yearP s = (3, s)) := by unfold Hid yearP; rw [if_neg hlt]
    have ht : decide (s.year < 100) = false := decide_eq_false hlt
    go_enter Try.func91, Try.ntmps91
    go_wp2_with fail
    rw [← hW1.out]
    go_wp2_with (go_at_call 75; (with_reducible refine (demand_no _ _).mono ?_); rintro e w3 ⟨rfl, rfl⟩)
    rw [hr.out]
    exact ⟨rfl, hb0.out.mono hB, .inl ⟨(by decide : (3 : Int) ≠ 0), rfl⟩⟩
end Go.Proofs.Ytpgkhlpepckfgaa
