/-
  straw.Choose, walked.
-/
import Derived.Test.YtpgkhlpepckfgaaXa05
import Derived.Test.YtpgkhlpepckfgaaXa08
import Derived.ChangeAlike
import Derived.Laws.EntriesVeiled
import Derived.RegionTactic
set_option linter.all false
set_option linter.unusedVariables false
set_option linter.unusedSimpArgs false
namespace Go.Proofs.Ytpgkhlpepckfgaa
open Go.RowKit Go.Lib Go.Maps

/-- What Choose answers: the choice, its cost, whether there is one, and the error. -/
def chooseP (l : List Plot) (dry : Int) (n : Need) : Best × Int :=
  if checkI l dry ≠ 0 then (⟨false, 0, []⟩, checkI l dry)
  else if (inB n.reed 0 100000 && inB n.straw 0 100000 && inB n.heather 0 100000) = false then (⟨false, 0, []⟩, 1)
  else (walkP l 0 0 n [] ⟨false, 0, []⟩, 0)

/-- A choice is handed back. -/
def Chosen (r : Best × Int) (w : World) (e : Ending) (w' : World) : Prop :=
  ∃ A' c', e = .returned (.tuple #[.slice A' r.1.choice.length c', .int .i64 r.1.cost, .bool r.1.found, .int .i64 r.2]) ∧ RdInts w' A' r.1.choice ∧ Below w.heap.size w w'

/-- The variables that Choose lays first. -/
abbrev W5 (w : World) (f n : Array Value) : World := ((((w.alloc (.cells f 24)).alloc (.cells n 26)).alloc (.cells #[.slice none 0 0] 29)).alloc (.cells #[.int .i64 0] 3)).alloc (.cells #[.bool false] 4)
theorem start_size (w : World) (f n : Array Value) : (W5 w f n).heap.size = w.heap.size + 5 := by simp
theorem start_heap (w : World) (f n : Array Value) : (W5 w f n).heap[w.heap.size]? = some (.cells f 24 (0, 0)) ∧ (W5 w f n).heap[w.heap.size + 1]? = some (.cells n 26 (0, 0)) ∧ (W5 w f n).heap[w.heap.size + 2]? = some (.cells #[.slice none 0 0] 29 (0, 0)) ∧
    (W5 w f n).heap[w.heap.size + 3]? = some (.cells #[.int .i64 0] 3 (0, 0)) ∧ (W5 w f n).heap[w.heap.size + 4]? = some (.cells #[.bool false] 4 (0, 0)) := by
  have nw : ∀ (W : World) (o : Obj) (k : Nat), k = W.heap.size → (W.alloc o).heap[k]? = some o := fun W o k hk => by rw [hk]; exact (MapKept.heap_alloc W o).1
  have od : ∀ (W : World) (o o' : Obj) (k : Nat), W.heap[k]? = some o' → (W.alloc o).heap[k]? = some o' := fun W o o' k h => by
    rw [Below.heap_alloc _ _ _ (Array.getElem?_eq_some_iff.1 h).1]; exact h
  exact ⟨od _ _ _ _ (od _ _ _ _ (od _ _ _ _ (od _ _ _ _ (nw _ _ _ rfl)))), od _ _ _ _ (od _ _ _ _ (od _ _ _ _ (nw _ _ _ (by simp)))), od _ _ _ _ (od _ _ _ _ (nw _ _ _ (by simp))), od _ _ _ _ (nw _ _ _ (by simp)), nw _ _ _ (by simp)⟩
theorem start_cells (w : World) (f n : Array Value) {w1 : World} (hb : Below (W5 w f n).heap.size (W5 w f n) w1) :
    w1.heap[w.heap.size]? = some (.cells f 24 (0, 0)) ∧ w1.cell? ⟨w.heap.size + 1 + 1, 0, none⟩ = some (.slice none 0 0) ∧ w1.cell? ⟨w.heap.size + 1 + 1 + 1, 0, none⟩ = some (.int .i64 0) ∧ w1.cell? ⟨w.heap.size + 1 + 1 + 1 + 1, 0, none⟩ = some (.bool false) := by
  obtain ⟨h0, h1, h2, h3, h4⟩ := start_heap w f n
  have hs := start_size w f n
  exact ⟨(hb.block _ (by omega)).trans h0, cell_of_one ((hb.block _ (by omega)).trans h2), cell_of_one ((hb.block _ (by omega)).trans h3), cell_of_one ((hb.block _ (by omega)).trans h4)⟩

theorem start_M {w : World} {f n : Array Value} {w1 : World} (hb : Below (W5 w f n).heap.size (W5 w f n) w1) : w.heap.size + 1 + 4 ≤ w1.heap.size := by have := hb.size; rw [start_size] at this; omega
theorem start_need {w : World} {f n : Array Value} {w1 : World} (hb : Below (W5 w f n).heap.size (W5 w f n) w1) : w1.heap[w.heap.size + 1]? = some (.cells n 26 (0, 0)) := (hb.block _ (by rw [start_size]; omega)).trans (start_heap w f n).2.1
theorem cells_three {w : World} {b : Nat} {x y z : Value} {t : TypeId} (h : w.heap[b]? = some (.cells #[x, y, z] t (0, 0))) : w.cell? ⟨b, 0, none⟩ = some x ∧ w.cell? ⟨b, 1, none⟩ = some y ∧ w.cell? ⟨b, 2, none⟩ = some z := by
  refine ⟨?_, ?_, ?_⟩ <;> simp [World.cell?, h]
theorem start_below (w : World) (f n : Array Value) : Below w.heap.size w (W5 w f n) :=
  (((((Below.refl _ w).alloc (Nat.le_refl _) _).alloc (by simp) _).alloc (by simp; omega) _).alloc (by simp; omega) _).alloc (by simp; omega) _
theorem start_back {w : World} {f n : Array Value} {w1 : World} (hb : Below (W5 w f n).heap.size (W5 w f n) w1) {u2 u3 u4 : Value} :
    Below w.heap.size w (((w1.setCell ⟨w.heap.size + 1 + 1, 0, none⟩ u2).setCell ⟨w.heap.size + 1 + 1 + 1, 0, none⟩ u3).setCell ⟨w.heap.size + 1 + 1 + 1 + 1, 0, none⟩ u4) :=
  ((((start_below w f n).trans (hb.mono (by rw [start_size]; omega))).setCell (p := ⟨w.heap.size + 1 + 1, 0, none⟩) (by show _ ≤ w.heap.size + 1 + 1; omega) _).setCell (p := ⟨w.heap.size + 1 + 1 + 1, 0, none⟩) (by show _ ≤ w.heap.size + 1 + 1 + 1; omega) _).setCell (p := ⟨w.heap.size + 1 + 1 + 1 + 1, 0, none⟩) (by show _ ≤ w.heap.size + 1 + 1 + 1 + 1; omega) _

theorem heap_new (W : World) (o : Obj) (k : Nat) (hk : k = W.heap.size) : (W.alloc o).heap[k]? = some o := by rw [hk]; exact (MapKept.heap_alloc W o).1
theorem heap_old (W : World) (o o' : Obj) (k : Nat) (h : W.heap[k]? = some o') : (W.alloc o).heap[k]? = some o' := by
  rw [Below.heap_alloc _ _ _ (Array.getElem?_eq_some_iff.1 h).1]; exact h

/-- What stands when the walk begins. -/
theorem start_WS {w w1 wC : World} {A : Option Addr} {c : Nat} {l : List Plot} {dry : Int} {n : Need} (hb : Below (W5 w #[.slice A l.length c, .int .i64 dry] #[.int .i64 n.reed, .int .i64 n.straw, .int .i64 n.heather]).heap.size (W5 w #[.slice A l.length c, .int .i64 dry] #[.int .i64 n.reed, .int .i64 n.straw, .int .i64 n.heather]) w1)
    (hm : MapIs wC Try.prog 74 w1.heap.size 3 (needM n)) (hC : Below w1.heap.size w1 wC) (hs : wC.heap.size = w1.heap.size + 1) :
    WS w w1.heap.size (((wC.alloc (.cells #[.map (some w1.heap.size)] 93)).alloc (.cells #[.slice none 0 0] 29)).alloc (.cells #[.func (.func 44) #[] (caps w.heap.size w1.heap.size)] 94)) A c l dry n [] ⟨false, 0, []⟩ (.slice none 0 0) := by
  have hM := start_M hb
  obtain ⟨h0, h1, h2, h3, h4⟩ := start_heap w #[.slice A l.length c, .int .i64 dry] #[.int .i64 n.reed, .int .i64 n.straw, .int .i64 n.heather]
  have old : ∀ k o, k < w.heap.size + 5 → (W5 w #[.slice A l.length c, .int .i64 dry] #[.int .i64 n.reed, .int .i64 n.straw, .int .i64 n.heather]).heap[k]? = some o → (((wC.alloc (.cells #[.map (some w1.heap.size)] 93)).alloc (.cells #[.slice none 0 0] 29)).alloc (.cells #[.func (.func 44) #[] (caps w.heap.size w1.heap.size)] 94)).heap[k]? = some o := fun k o hk h =>
    heap_old _ _ _ _ (heap_old _ _ _ _ (heap_old _ _ _ _ ((hC.block _ (by omega)).trans ((hb.block _ (by rw [start_size]; omega)).trans h))))
  refine ⟨?_, by omega, by simp; omega, old _ _ (by omega) h0, heap_old _ _ _ _ (heap_old _ _ _ _ (heap_new _ _ _ hs.symm)), ⟨3, (((hm.alloc _).alloc _).alloc _)⟩, old _ _ (by omega) h4, old _ _ (by omega) h3, heap_new _ _ _ (by simp; omega), .slice none 0 0, heap_old _ _ _ _ (heap_new _ _ _ (by simp; omega)), World.ownsRow_nil _ _ _ _, old _ _ (by omega) h2, World.ownsRow_nil _ _ _ _, fun k hk => by simp [Value.ownBlock] at hk⟩
  exact (((((start_below w _ _).trans (hb.mono (by rw [start_size]; omega))).trans (hC.mono (by omega))).alloc (by omega) _).alloc (by simp; omega) _).alloc (by simp; omega) _

set_option maxHeartbeats 2000000 in
set_option maxRecDepth 100000 in
theorem choose_any (A : Option Addr) (c : Nat) (l : List Plot) (dry : Int) (n : Need) (w : World) (h : RdPlots w A l) :
    Calls Try.prog 18 #[.agg #[.slice A l.length c, .int .i64 dry], .agg #[.int .i64 n.reed, .int .i64 n.straw, .int .i64 n.heather]] w fun e w' => Chosen (chooseP l dry n) w e w' := by
  by_cases hck : checkI l dry = 0
  · have hb0 : (checkI l dry != 0) = false := by rw [hck]; rfl
    by_cases hin : (inB n.reed 0 100000 && inB n.straw 0 100000 && inB n.heather 0 100000) = false
    · have hR : Hid (chooseP l dry n = (⟨false, 0, []⟩, 1)) := by unfold Hid chooseP; rw [if_neg (fun h => h hck), if_pos hin]
      have hin := Lib.hid hin
      have hck := Lib.hid hck
      go_enter Try.func18, Try.ntmps18
      go_wp2_with (first | (go_at_call 25; refine (check_any _ _ _ _ _ (h.below (start_below w _ _))).mono ?_; rintro e w1 ⟨rfl, hb1⟩; obtain ⟨hk1, hf1⟩ := bcell hb1; have hE := start_cells w _ _ hb1; obtain ⟨e0, e2, e3, e4⟩ := hE) | (go_at_call 43; refine (in_any _ _ _ _).mono ?_; rintro e w' ⟨rfl, rfl⟩))
      all_goals first
        | (exfalso; have := hin.out; simp_all; done)
        | (refine bodyPost_ret (v := .tuple #[.slice none 0 0, .int .i64 0, .bool false, .int .i64 1]) (by simp [results, Try.results18, go_sem, World.cell?_setCell_same', e2, e3, e4]) rfl ?_
           exact ⟨none, 0, by rw [hR.out]; rfl, by rw [hR.out]; exact ⟨by simp, by simp⟩, start_back hb1⟩)
    · have hR : Hid (chooseP l dry n = (walkP l 0 0 n [] ⟨false, 0, []⟩, 0)) := by unfold Hid chooseP; rw [if_neg (fun h => h hck), if_neg hin]
      have h12 : Hid (l.length ≤ 12) := by
        unfold Hid; by_cases hl : 12 < l.length
        · rw [checkI_long hl] at hck; cases hck
        · omega
      have hok : Hid (∀ p ∈ l, plotOk p = true) := checkI_ok hck
      have hn0 : Hid (NeedIn n (100000 * (((0 : Nat) : Int) + 1))) := by
        simp only [Bool.not_eq_false, Bool.and_eq_true, inB, decide_eq_true_eq] at hin
        unfold Hid NeedIn; omega
      simp only [Bool.not_eq_false, Bool.and_eq_true] at hin
      obtain ⟨⟨i1, i2⟩, i3⟩ := hin
      have hck := Lib.hid hck
      go_enter Try.func18, Try.ntmps18
      have hmm := @run_makeMap Try.prog
      go_wp2_with (first | (go_at_call 25; refine (check_any _ _ _ _ _ (h.below (start_below w _ _))).mono ?_; rintro e w1 ⟨rfl, hb1⟩; obtain ⟨hk1, hf1⟩ := bcell hb1; have hM := start_M hb1; have hlt1 := Nat.lt_of_lt_of_le (Nat.lt_add_of_pos_right (k := 4) (n := w.heap.size + 1) (by decide)) hM; have n0 := start_need hb1) | (go_at_call 43; refine (in_any _ _ _ _).mono ?_; rintro e w' ⟨rfl, rfl⟩) | (refine wp_insert _ rfl _ _ _ 93 rfl 74 3 (int_keyed Try.underlying74) Try.underlying93 w1.heap.size 0 (fun _ => none) rfl (MapIs.made w1 _ _) (.int .i64 1) _ _ rfl rfl (keyOf_int_mk Try.underlying74 (by decide)) (needM1 n) rfl (fun x _ _ hx => needM1_other n x hx) ?_; intro wA hmwA hgwA hswA; have hBwA := ((Below.refl _ w1).alloc (Nat.le_refl _) _).grown hgwA (by simp) (fun k e => by cases e; exact Nat.le_refl _); have nN := (hBwA.block (w.heap.size + 1) hlt1).trans n0; obtain ⟨n1, n2, n3⟩ := cells_three nN; clear nN) | (refine wp_insert _ rfl _ _ _ 93 rfl 74 3 (int_keyed Try.underlying74) Try.underlying93 w1.heap.size 1 (needM1 n) rfl hmwA (.int .i64 2) _ _ rfl rfl (keyOf_int_mk Try.underlying74 (by decide)) (needM2 n) rfl (fun x _ _ hx => needM2_other n x hx) ?_; intro wB hmwB hgwB hswB; have hBwB := hBwA.grown hgwB hBwA.size (fun k e => by cases e; exact Nat.le_refl _); have nN := (hBwB.block (w.heap.size + 1) hlt1).trans n0; obtain ⟨n1, n2, n3⟩ := cells_three nN; clear nN) | (refine wp_insert _ rfl _ _ _ 93 rfl 74 3 (int_keyed Try.underlying74) Try.underlying93 w1.heap.size 2 (needM2 n) rfl hmwB (.int .i64 3) _ _ rfl rfl (keyOf_int_mk Try.underlying74 (by decide)) (needM n) rfl (fun x _ _ hx => needM3_other n x hx) ?_; intro wC hmwC hgwC hswC; have hBwC := hBwB.grown hgwC hBwB.size (fun k e => by cases e; exact Nat.le_refl _); have nN := (hBwC.block (w.heap.size + 1) hlt1).trans n0; obtain ⟨n1, n2, n3⟩ := cells_three nN; clear nN) | (go_at_call 44; refine (show Calls Try.prog 44 #[.int .i64 0, .int .i64 0, ptr w.heap.size, ptr (w1.heap.size + 1), ptr (w.heap.size + 1 + 1 + 1 + 1), ptr (w.heap.size + 1 + 1 + 1), ptr (w1.heap.size + 1 + 1), ptr (w.heap.size + 1 + 1), ptr (w1.heap.size + 1 + 1 + 1)] _ _ from walk_any w w1.heap.size A c l dry h h12.out hok.out l 0 0 n [] ⟨false, 0, []⟩ (.slice none 0 0) _ (Nat.zero_le _) rfl (Int.le_refl _) (by simp) hn0.out (Nat.le_refl _) (Nat.zero_le _) (start_WS hb1 hmwC hBwC (hswC.trans (hswB.trans (hswA.trans (World.size_alloc _ _)))))).mono ?_; rintro e w6 ⟨rfl, v6, hWS6, _⟩))
      obtain ⟨vc, _, _, hvc, hrc, _⟩ := hWS6.rows
      obtain ⟨A', c', rfl⟩ := hrc.slice
      have d2 : w6.cell? ⟨w.heap.size + 1 + 1, 0, none⟩ = some (.slice A' (walkP l 0 0 n [] ⟨false, 0, []⟩).choice.length c') := cell_of_one hvc
      have d3 : w6.cell? ⟨w.heap.size + 1 + 1 + 1, 0, none⟩ = some (.int .i64 (walkP l 0 0 n [] ⟨false, 0, []⟩).cost) := cell_of_one hWS6.cost
      have d4 : w6.cell? ⟨w.heap.size + 1 + 1 + 1 + 1, 0, none⟩ = some (.bool (walkP l 0 0 n [] ⟨false, 0, []⟩).found) := cell_of_one hWS6.found
      have f2 : w6.frozen? ⟨w.heap.size + 1 + 1, 0, none⟩ = false := free_of_one hvc
      have f3 : w6.frozen? ⟨w.heap.size + 1 + 1 + 1, 0, none⟩ = false := free_of_one hWS6.cost
      have f4 : w6.frozen? ⟨w.heap.size + 1 + 1 + 1 + 1, 0, none⟩ = false := free_of_one hWS6.found
      have hb6 := hWS6.below
      have hlen := walkP_len l 0 0 n [] ⟨false, 0, []⟩ (show 0 + l.length ≤ 12 by have := h12.out; omega) (Nat.zero_le _)
      have hRc := Lib.hid hrc
      generalize walkP l 0 0 n [] ⟨false, 0, []⟩ = R at *
      clear hvc hWS6 hrc hb1 hmwC hmwB hmwA hgwA hgwB hgwC hBwA hBwB hBwC hk1 hf1 n0 n1 n2 n3
      go_region
      go_wp2
      refine bodyPost_ret (v := .tuple #[.slice A' R.choice.length c', .int .i64 R.cost, .bool R.found, .int .i64 0]) (by simp [results, Try.results18, go_sem, World.cell?_setCell_same', d2, d3, d4]) rfl ?_
      refine ⟨A', c', by rw [hR.out], ?_, ?_⟩
      · rw [hR.out]
        have hr := ((hRc.out.set (b := w.heap.size + 1 + 1) (u := .slice A' R.choice.length c') (by omega)).set (b := w.heap.size + 1 + 1 + 1) (u := .int .i64 R.cost) (by omega)).set (b := w.heap.size + 1 + 1 + 1 + 1) (u := .bool R.found) (by omega)
        obtain ⟨A2, c2, e2, hr2⟩ := hr.reads (by omega)
        cases e2
        exact hr2.below (Below.refl _ _).drew
      · exact (((hb6.setCell (p := ⟨w.heap.size + 1 + 1, 0, none⟩) (by show _ ≤ w.heap.size + 1 + 1; omega) _).setCell (p := ⟨w.heap.size + 1 + 1 + 1, 0, none⟩) (by show _ ≤ w.heap.size + 1 + 1 + 1; omega) _).setCell (p := ⟨w.heap.size + 1 + 1 + 1 + 1, 0, none⟩) (by show _ ≤ w.heap.size + 1 + 1 + 1 + 1; omega) _).drew
  · have hb0 : (checkI l dry != 0) = true := bne_iff_ne.2 hck
    have hR : Hid (chooseP l dry n = (⟨false, 0, []⟩, checkI l dry)) := if_pos hck
    have hck := Lib.hid hck
    go_enter Try.func18, Try.ntmps18
    go_wp2_with (go_at_call 25; refine (check_any _ _ _ _ _ (h.below ?_)).mono ?_; (exact (((((Below.refl _ w).alloc (Nat.le_refl _) _).alloc (by simp) _).alloc (by simp; omega) _).alloc (by simp; omega) _).alloc (by simp; omega) _); rintro e w1 ⟨rfl, hb1⟩; obtain ⟨hk1, hf1⟩ := bcell hb1; have hE := start_cells w _ _ hb1; obtain ⟨e0, e2, e3, e4⟩ := hE)
    refine bodyPost_ret (v := .tuple #[.slice none 0 0, .int .i64 0, .bool false, .int .i64 (checkI l dry)]) (by simp [results, Try.results18, go_sem, World.cell?_setCell_same', e2, e3, e4]) rfl ?_
    refine ⟨none, 0, by rw [hR.out]; rfl, by rw [hR.out]; exact ⟨by simp, by simp⟩, ?_⟩
    exact start_back hb1
end Go.Proofs.Ytpgkhlpepckfgaa
