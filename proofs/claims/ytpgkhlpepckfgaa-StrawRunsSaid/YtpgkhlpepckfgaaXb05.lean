/-
  Loads of a heap are bound, as the specification has it: walked. Loads are bound, as the specification has it: walked. What Do of the specification does: walked.
-/
import Derived.Test.YtpgkhlpepckfgaaXa15
import Derived.Test.YtpgkhlpepckfgaaXa19
import Derived.Test.YtpgkhlpepckfgaaXa20
import Derived.Test.YtpgkhlpepckfgaaXa32
import Derived.Test.YtpgkhlpepckfgaaXb00
import Derived.Test.YtpgkhlpepckfgaaXb01
import Derived.Test.YtpgkhlpepckfgaaXb02
import Derived.Test.YtpgkhlpepckfgaaXb03
import Derived.Test.YtpgkhlpepckfgaaXb04
import Derived.BigQuiet
set_option linter.all false
set_option linter.unusedVariables false
set_option linter.unusedSimpArgs false
section
namespace Go.Proofs.Ytpgkhlpepckfgaa
open Go.RowKit Go.Lib

set_option maxHeartbeats 4000000 in
set_option maxRecDepth 100000 in
theorem bound_any (B : Nat) (A : Option Addr) (pl : List Plot) (c : Nat) (dry : Int) (s : Store) (k : Nat) (a : Chore) (w : World) (h : Rows B none s w) (hB : B ≤ w.heap.size) (hk : k < s.heaps.length) (hh16 : s.heaps.length ≤ 16) (hm : MildH s.heaps) (ho2 : a.other.size ≤ 140737488351232) :
    Calls Try.prog 113 #[.agg #[.slice A pl.length c, .int .i64 dry], storeVal s, .int .i64 k, choreVal a] w (RefOut B s (bindP dry s k a) w) := by
  obtain ⟨W0, hW0⟩ : ∃ W0, W0 = RXw w A c pl dry a s := ⟨_, rfl⟩
  have hX0 : Hid (RX s B w A c pl dry a s W0) := by rw [hW0]; exact RX.make h hB
  unfold RXw at hW0
  obtain ⟨G, hG⟩ : ∃ G, G = s.heaps[k] := ⟨_, rfl⟩
  obtain ⟨g, hg, hcG, hfG⟩ := hX0.out.rows.heapAt hk
  rw [← hG] at hcG
  have hgd : Hid (s.heaps.getD k default = G) := by unfold Hid; rw [getD_lt _ hk, hG]
  have hmG : Mild G.parts := hG ▸ (hm.2 _ (List.getElem_mem hk))
  have hrG : RdParts W0 G.pa G.parts ∧ G.name.size ≤ 140737488351232 := hG ▸ hX0.out.rows.parts _ (List.getElem_mem hk)
  have x0 : W0.cell? ⟨g, k * 7, none⟩ = some (.string G.name) := hcG 0 _ rfl
  have x1 : W0.cell? ⟨g, k * 7 + 1, none⟩ = some (.int .i64 G.crop) := hcG 1 _ rfl
  have x2 : W0.cell? ⟨g, k * 7 + 2, none⟩ = some (.int .i64 G.stage) := hcG 2 _ rfl
  have x3 : W0.cell? ⟨g, k * 7 + 3, none⟩ = some (.slice G.pa G.parts.length G.pc) := hcG 3 _ rfl
  have x4 : W0.cell? ⟨g, k * 7 + 4, none⟩ = some (.int .i64 G.per) := hcG 4 _ rfl
  have x5 : W0.cell? ⟨g, k * 7 + 5, none⟩ = some (.int .i64 G.wet.lo) := hcG 5 _ rfl
  have x6 : W0.cell? ⟨g, k * 7 + 6, none⟩ = some (.int .i64 G.wet.hi) := hcG 6 _ rfl
  obtain ⟨k0, k1, k2, k3, k4, k5⟩ := six_cells hX0.out.store
  rw [hg] at k3
  replace hg := Lib.hid hg
  replace hcG := Lib.hid hcG
  replace hfG := Lib.hid hfG
  replace hG := Lib.hid hG
  have hfz : Hid (∀ W t, RX s B w A c pl dry a t W → ∀ j, W.frozen? ⟨w.heap.size + 1 + 1 + 1, j, none⟩ = false) := fun W t h j => frozen_of_row W _ j _ _ h.out
  go_enter Try.func113, Try.ntmps113
  go_upto_region 1 with fail
  rw [← hW0]
  replace hW0 := Lib.hid hW0
  go_upto_region 2 with fail
  obtain ⟨w1, hw1⟩ : ∃ x, x = W0.alloc (.cells (hcells G) 77) := ⟨_, rfl⟩
  obtain ⟨bh, hbh⟩ : ∃ b, b = W0.heap.size := ⟨_, rfl⟩
  rw [← hw1, ← hbh]
  have hb1 : Below W0.heap.size W0 w1 := by rw [hw1]; exact (Below.refl _ W0).alloc (Nat.le_refl _) _
  have hx1 : Hid (w1.heap[bh]? = some (.cells (hcells G) 77 (0, 0))) := by unfold Hid; rw [hw1, hbh]; exact heap_new _ _ _ rfl
  have hX1 := Lib.hid (hX0.out.later hb1)
  have hrG1 := Lib.hid (hrG.1.below hb1)
  have hnG := Lib.hid hrG.2
  clear x0 x1 x2 x3 x4 x5 x6 k0 k1 k2 k3 k4 k5 hrG hb1
  replace hw1 := Lib.hid hw1
  replace hbh := Lib.hid hbh
  obtain ⟨k0, k1, k2, k3, k4, k5⟩ := six_cells hX1.out.store
  obtain ⟨c0, c1, c2, c3, c4, c5, c6, c7, c8⟩ := nine_cells2 hX1.out.chore
  obtain ⟨p0, p1⟩ := cells2 hX1.out.farm
  obtain ⟨d0, d1, d2, d3, d4, d5⟩ := cells6 hX1.out.out
  have f0 := hfz.out _ _ hX1.out 0
  have f1 := hfz.out _ _ hX1.out 1
  have f2 := hfz.out _ _ hX1.out 2
  have f3 := hfz.out _ _ hX1.out 3
  have f4 := hfz.out _ _ hX1.out 4
  have f5 := hfz.out _ _ hX1.out 5
  obtain ⟨x0, x1, x2, x3, x4, x5, x6⟩ := seven_cells hx1.out
  cases t2 : nameB a.other with
  | false =>
    have hr : Hid (bindP dry s k a = (5, s)) := by unfold Hid bindP; rw [if_pos t2]
    go_wp2_with (go_at_call 56; (with_reducible refine (rName_any _ _ (by omega)).mono ?_); rintro e w2 ⟨rfl, rfl⟩; rw [t2])
    rw [hr.out]
    exact hX1.out.fin (r := (5, s)) (fun e => by cases e) Try.results113 rfl rfl
  | true =>
  have hat : Hid (Calls Try.prog 70 #[storeVal s, .string a.other] w1 fun e w' => e = .returned (.int .i64 (nameIdx a.other s.heaps)) ∧ Below w1.heap.size w1 w') := at_any s a.other w1 hX1.out.rows.store
  obtain ⟨i, hi⟩ : ∃ i, i = nameIdx a.other s.heaps := ⟨_, rfl⟩
  rw [← hi] at hat
  replace hi := Lib.hid hi
  go_wp2_with (go_at_call 56; (with_reducible refine (rName_any _ _ (by omega)).mono ?_); rintro e w2 ⟨rfl, rfl⟩; rw [t2])
  go_at_call 70
  (with_reducible refine hat.out.mono ?_)
  rintro e w2 ⟨rfl, hb2⟩
  have hX2 := Lib.hid (hX1.out.later hb2)
  have hx2 : Hid (w2.heap[bh]? = some (.cells (hcells G) 77 (0, 0))) := (hb2.block _ (Array.getElem?_eq_some_iff.1 hx1.out).1).trans hx1.out
  have hrG2 := Lib.hid (hrG1.out.below hb2)
  clear x0 x1 x2 x3 x4 x5 x6 k0 k1 k2 k3 k4 k5 c0 c1 c2 c3 c4 c5 c6 c7 c8 p0 p1 d0 d1 d2 d3 d4 d5 f0 f1 f2 f3 f4 f5 hb2
  obtain ⟨k0, k1, k2, k3, k4, k5⟩ := six_cells hX2.out.store
  obtain ⟨c0, c1, c2, c3, c4, c5, c6, c7, c8⟩ := nine_cells2 hX2.out.chore
  obtain ⟨p0, p1⟩ := cells2 hX2.out.farm
  obtain ⟨d0, d1, d2, d3, d4, d5⟩ := cells6 hX2.out.out
  have f0 := hfz.out _ _ hX2.out 0
  have f1 := hfz.out _ _ hX2.out 1
  have f2 := hfz.out _ _ hX2.out 2
  have f3 := hfz.out _ _ hX2.out 3
  have f4 := hfz.out _ _ hX2.out 4
  have f5 := hfz.out _ _ hX2.out 5
  obtain ⟨x0, x1, x2, x3, x4, x5, x6⟩ := seven_cells hx2.out
  by_cases t3 : 0 ≤ i
  · have hr : Hid (bindP dry s k a = (6, s)) := by unfold Hid bindP; rw [if_neg (by rw [t2]; decide), if_pos (hi.out ▸ t3)]
    have t3d : decide (0 ≤ i) = true := decide_eq_true t3
    go_wp2_with fail
    rw [hr.out]
    exact hX2.out.fin (r := (6, s)) (fun e => by cases e) Try.results113 rfl rfl
  have t3n : Hid (nameIdx a.other s.heaps < 0) := Int.not_le.1 (hi.out ▸ t3)
  have t3d : decide (0 ≤ i) = false := decide_eq_false t3
  clear t3
  by_cases t4 : G.stage = 2 ∧ G.wet.hi ≤ dry
  rotate_left
  · have hr : Hid (bindP dry s k a = (8, s)) := by unfold Hid bindP; rw [if_neg (by rw [t2]; decide), if_neg (Int.not_le.2 t3n.out), hgd.out, if_pos t4]
    have t4' : (G.stage != 2) = true ∨ ((G.stage != 2) = false ∧ decide (dry < G.wet.hi) = true) := by
      by_cases e1 : G.stage = 2
      · exact .inr ⟨by simpa using e1, decide_eq_true (by have : ¬ G.wet.hi ≤ dry := fun h => t4 ⟨e1, h⟩; omega)⟩
      · exact .inl (by simpa using e1)
    replace t4 := Lib.hid t4
    rcases t4' with e1 | ⟨e1, e2⟩
    all_goals
      go_wp2_with fail
      rw [hr.out]
      exact hX2.out.fin (r := (8, s)) (fun e => by cases e) Try.results113 rfl rfl
  have t4a : (G.stage != 2) = false := by simpa using t4.1
  have t4b : decide (dry < G.wet.hi) = false := decide_eq_false (by have := t4.2; omega)
  replace t4 := Lib.hid t4
  cases t5 : inB a.per 1 100 with
  | false =>
    have hr : Hid (bindP dry s k a = (1, s)) := by unfold Hid bindP; rw [if_neg (by rw [t2]; decide), if_neg (Int.not_le.2 t3n.out), hgd.out, if_neg (fun h => h t4.out), if_pos t5]
    go_wp2_with (go_at_call 49; (with_reducible refine (rin_any _ _ _ _).mono ?_); rintro e w3 ⟨rfl, rfl⟩; rw [t5])
    rw [hr.out]
    exact hX2.out.fin (r := (1, s)) (fun e => by cases e) Try.results113 rfl rfl
  | true =>
  have hper := t5
  simp only [inB, Bool.and_eq_true, decide_eq_true_eq] at hper
  obtain ⟨hp1, hp2⟩ := hper
  obtain ⟨sm1, sm2⟩ := hmG.sum
  obtain ⟨sm, hsm⟩ : ∃ sm, sm = sumL G.parts := ⟨_, rfl⟩
  rw [← hsm] at sm1 sm2
  obtain ⟨q, hq⟩ : ∃ q, q = sm / a.per := ⟨_, rfl⟩
  have q1 : 0 ≤ q := by rw [hq]; exact Int.ediv_nonneg sm1 (by omega)
  have q2 : q ≤ sm := by rw [hq]; exact Int.ediv_le_self _ sm1
  have q3 : q * a.per ≤ sm := by rw [hq]; exact Int.ediv_mul_le sm (by omega)
  have q4 : 0 ≤ q * a.per := Int.mul_nonneg q1 (by omega)
  have dv1 : Int.tdiv sm a.per = q := by rw [hq]; exact Int.tdiv_eq_ediv_of_nonneg sm1
  have w1' : IntKind.i64.wrap q = q := IntWalk.i64_in _ (by omega)
  have w2' : wrap64 q = q := by unfold wrap64; omega
  have hp0 : a.per ≠ 0 := by omega
  have hq71 : Hid (∀ W', Below w2.heap.size w2 W' → Calls Try.prog 71 #[.slice G.pa G.parts.length G.pc] W' fun e w' => e = .returned (.int .i64 sm) ∧ w' = W') := fun W' hW' => (loads_any _ _ _ _ (hrG2.out.below hW') hmG).mono fun _ _ ⟨h1, h2⟩ => ⟨by rw [h1, hsm], h2.symm⟩
  have dv2 : Hid (sumL G.parts / a.per = q) := by unfold Hid; rw [hq, hsm]
  replace hq := Lib.hid hq
  replace hsm := Lib.hid hsm
  go_upto_region 10 with (go_at_call 49; (with_reducible refine (rin_any _ _ _ _).mono ?_); rintro e w3 ⟨rfl, rfl⟩; rw [t5])
  go_big_quiet (first | (go_at_call 71; exact Calls.quiet_of_same (hq71.out _ (below_drewN_ w2 _))))
  obtain ⟨w3, hw3⟩ : ∃ x, x = w2.drewN nq := ⟨_, rfl⟩
  rw [← hw3]
  have hb3 : Below w2.heap.size w2 w3 := by rw [hw3]; exact below_drewN_ _ _
  have hX3 := Lib.hid (hX2.out.later hb3)
  have hx3 : Hid (w3.heap[bh]? = some (.cells (hcells G) 77 (0, 0))) := (hb3.block _ (Array.getElem?_eq_some_iff.1 hx2.out).1).trans hx2.out
  have hrG3 := Lib.hid (hrG2.out.below hb3)
  clear x0 x1 x2 x3 x4 x5 x6 k0 k1 k2 k3 k4 k5 c0 c1 c2 c3 c4 c5 c6 c7 c8 p0 p1 d0 d1 d2 d3 d4 d5 f0 f1 f2 f3 f4 f5 hb3
  replace hw3 := Lib.hid hw3
  obtain ⟨k0, k1, k2, k3, k4, k5⟩ := six_cells hX3.out.store
  obtain ⟨c0, c1, c2, c3, c4, c5, c6, c7, c8⟩ := nine_cells2 hX3.out.chore
  obtain ⟨p0, p1⟩ := cells2 hX3.out.farm
  obtain ⟨d0, d1, d2, d3, d4, d5⟩ := cells6 hX3.out.out
  have f0 := hfz.out _ _ hX3.out 0
  have f1 := hfz.out _ _ hX3.out 1
  have f2 := hfz.out _ _ hX3.out 2
  have f3 := hfz.out _ _ hX3.out 3
  have f4 := hfz.out _ _ hX3.out 4
  have f5 := hfz.out _ _ hX3.out 5
  obtain ⟨x0, x1, x2, x3, x4, x5, x6⟩ := seven_cells hx3.out
  by_cases t6 : q = 0
  · have hr : Hid (bindP dry s k a = (9, s)) := by unfold Hid bindP; rw [if_neg (by rw [t2]; decide), if_neg (Int.not_le.2 t3n.out), hgd.out, if_neg (fun h => h t4.out), if_neg (by rw [t5]; decide), dv2.out, if_pos (by omega)]
    have t6b : (q == 0) = true := by simpa using t6
    replace t6 := Lib.hid t6
    go_wp2_with fail
    rw [hr.out]
    exact hX3.out.fin (r := (9, s)) (fun e => by cases e) Try.results113 rfl rfl
  have t6b : (q == 0) = false := by simpa using t6
  have t6h : Hid (0 < q) := by unfold Hid; omega
  clear t6
  obtain ⟨N, hN⟩ : ∃ N, N = q * a.per := ⟨_, rfl⟩
  rw [← hN] at q3 q4
  have hNw : IntKind.i64.wrap (q * a.per) = N := by rw [← hN]; exact IntWalk.i64_in _ (by omega)
  replace hN := Lib.hid hN
  have hcut := Lib.hid (rcut_fresh G.pa G.pc G.parts N w3 hrG3.out hmG ⟨q4, by omega⟩)
  obtain ⟨CF, hCF⟩ : ∃ x, x = cutF G.parts N := ⟨_, rfl⟩
  obtain ⟨CR, hCR⟩ : ∃ x, x = cutR G.parts N := ⟨_, rfl⟩
  unfold CutOutF at hcut
  rw [← hCF, ← hCR] at hcut
  replace hCF := Lib.hid hCF
  replace hCR := Lib.hid hCR
  go_wp2_with fail
  go_at_call 72
  (with_reducible refine hcut.out.mono ?_)
  rintro e w4 ⟨A1, ec1, A2, ec2, rfl, r1, r2, hb4, n1, n2⟩
  have hX4 := Lib.hid (hX3.out.later hb4)
  have hx4 : Hid (w4.heap[bh]? = some (.cells (hcells G) 77 (0, 0))) := (hb4.block _ (Array.getElem?_eq_some_iff.1 hx3.out).1).trans hx3.out
  clear x0 x1 x2 x3 x4 x5 x6 k0 k1 k2 k3 k4 k5 c0 c1 c2 c3 c4 c5 c6 c7 c8 p0 p1 d0 d1 d2 d3 d4 d5 f0 f1 f2 f3 f4 f5 hcut
  replace r1 := Lib.hid r1
  replace r2 := Lib.hid r2
  replace n1 := Lib.hid n1
  replace n2 := Lib.hid n2
  replace hb4 := Lib.hid hb4
  obtain ⟨k0, k1, k2, k3, k4, k5⟩ := six_cells hX4.out.store
  obtain ⟨c0, c1, c2, c3, c4, c5, c6, c7, c8⟩ := nine_cells2 hX4.out.chore
  obtain ⟨p0, p1⟩ := cells2 hX4.out.farm
  obtain ⟨d0, d1, d2, d3, d4, d5⟩ := cells6 hX4.out.out
  have f0 := hfz.out _ _ hX4.out 0
  have f1 := hfz.out _ _ hX4.out 1
  have f2 := hfz.out _ _ hX4.out 2
  have f3 := hfz.out _ _ hX4.out 3
  have f4 := hfz.out _ _ hX4.out 4
  have f5 := hfz.out _ _ hX4.out 5
  obtain ⟨x0, x1, x2, x3, x4, x5, x6⟩ := seven_cells hx4.out
  have hkl : (keepP s k CR).heaps.length < 16 ↔ ¬ (0 < CR.length ∧ s.heaps.length = 16) := by
    unfold keepP
    split
    · rename_i e
      show (s.heaps.eraseIdx k).length < 16 ↔ _
      rw [List.length_eraseIdx_of_lt hk, e]
      simp; omega
    · rename_i e
      show (s.heaps.set k _).length < 16 ↔ _
      rw [List.length_set]
      have : 0 < CR.length := List.length_pos_iff.2 e
      omega
  by_cases t7 : 0 < CR.length ∧ s.heaps.length = 16
  · have hr : Hid (bindP dry s k a = (3, s)) := by unfold Hid bindP; rw [if_neg (by rw [t2]; decide), if_neg (Int.not_le.2 t3n.out), hgd.out, if_neg (fun h => h t4.out), if_neg (by rw [t5]; decide), dv2.out, if_neg (fun h => h t6h.out), ← hN.out, ← hCR.out, if_pos (fun h => hkl.1 h t7)]
    have t7a : decide (0 < CR.length) = true := decide_eq_true t7.1
    have t7b : (((s.heaps.length : Nat) : Int) == 16) = true := by rw [t7.2]; rfl
    replace t7 := Lib.hid t7
    clear hkl
    go_wp2_with fail
    rw [hr.out]
    exact hX4.out.fin (r := (3, s)) (fun e => by cases e) Try.results113 rfl rfl
  have hr : Hid (bindP dry s k a = (0, pushH (keepP s k CR) ⟨a.other, G.crop, 3, CF, a.per, G.wet, none, 0⟩)) := by unfold Hid bindP; rw [if_neg (by rw [t2]; decide), if_neg (Int.not_le.2 t3n.out), hgd.out, if_neg (fun h => h t4.out), if_neg (by rw [t5]; decide), dv2.out, if_neg (fun h => h t6h.out), ← hN.out, ← hCR.out, if_neg (fun h => h (hkl.2 t7)), ← hCF.out]
  have t7' : decide (0 < CR.length) = false ∨ (decide (0 < CR.length) = true ∧ (((s.heaps.length : Nat) : Int) == 16) = false) := by
    by_cases e1 : 0 < CR.length
    · exact .inr ⟨decide_eq_true e1, by have : s.heaps.length ≠ 16 := fun e => t7 ⟨e1, e⟩; rw [beq_eq_false_iff_ne]; omega⟩
    · exact .inl (decide_eq_false e1)
  replace t7 := Lib.hid t7
  replace hkl := Lib.hid hkl
  have hoR : ∀ x, CR ≠ [] → blk A2 = some x → Off s none x := fun x _ e => (hX3.out.rows.loose (Nat.le_refl _)).newOff (n2.out x e)
  have hwi : Hid (Calls Try.prog 114 #[storeVal s, .int .i64 k, .slice A2 CR.length ec2] w4 (WithOut B B (fun q => CR ≠ [] ∧ blk A2 = some q) s (keepP s k CR) w4)) := with_any B s k A2 ec2 CR w4 (hX4.out.rows.loose (Nat.le_refl _)) hX4.out.bLe hk r2.out hoR
  clear hoR
  rcases t7' with e1 | ⟨e1, e2⟩
  all_goals
    go_wp2_with fail
    go_at_call 114
    (with_reducible refine hwi.out.mono ?_)
    rintro e w5 ⟨t, rfl, hst, hrt, hb5, hf5, hk5, hw5o⟩
    have hz3 := hX3.out.size
    have hz4 := hX4.out.size
    have hO5 : Hid (RXo s B w A c pl dry a s t w5) := hX4.out.got hrt hb5 hf5 hk5 (fun q ⟨_, e⟩ => .inr (by have := n2.out q e; omega)) hw5o
    have hgN : Hid (∀ q, blk s.ha = some q → q < w.heap.size) := fun q e => (h.heapsLt e).2
    have hbhl := (Array.getElem?_eq_some_iff.1 hx4.out).1
    have hbh4 : w.heap.size + 4 ≤ bh := by rw [hbh.out]; exact hX0.out.size
    have hx5 : Hid (w5.heap[bh]? = some (.cells (hcells G) 77 (0, 0))) := (hk5 bh hbhl (fun e => by have := hgN.out bh e; omega)).trans hx4.out
    have r15 : Hid (RdParts w5 A1 CF) := r1.out.keep fun q hl e => hk5 q (r1.out.lt hl e) (fun e' => by have := hgN.out q e'; have := n1.out q e; omega)
    have hkp : Hid (∀ q, CF ≠ [] → blk A1 = some q → w.heap.size + 4 ≤ q ∧ q < w4.heap.size) := fun q hl e => ⟨by have := n1.out q e; omega, r1.out.lt hl e⟩
    have hoff : Hid (∀ q, CF ≠ [] → blk A1 = some q → Off t (some (w.heap.size + 1)) q) := fun q hl e => by
      obtain ⟨h1, h2⟩ := hkp.out q hl e
      have hno : ¬ Owns t q := fun ho => by
        rcases hw5o q ho with h3 | h3
        · have : Lies s q := by
            rcases h3 with h4 | h4 | h4
            · exact .inl h4
            · exact .inr (.inl h4)
            · exact .inr (.inr (.inl h4))
          have := h.lies this
          omega
        · omega
      exact ⟨fun e => hno (.inl e), fun e => hno (.inr (.inl e)), fun e => hno (.inr (.inr e)), fun e => by have := Option.some.inj e; omega⟩
    clear x0 x1 x2 x3 x4 x5 x6 k0 k1 k2 k3 k4 k5 c0 c1 c2 c3 c4 c5 c6 c7 c8 p0 p1 d0 d1 d2 d3 d4 d5 f0 f1 f2 f3 f4 f5
    replace hst := Lib.hid hst
    replace hrt := Lib.hid hrt
    replace hb5 := Lib.hid hb5
    replace hf5 := Lib.hid hf5
    replace hk5 := Lib.hid hk5
    replace hw5o := Lib.hid hw5o
    obtain ⟨k0, k1, k2, k3, k4, k5⟩ := six_cells hO5.out.store
    have hfs : ∀ j, w5.frozen? ⟨w.heap.size + 1, j, none⟩ = false := fun j => frozen_of_row w5 _ j _ _ hO5.out.store
    have s0 := hfs 0
    have s1 := hfs 1
    have s2 := hfs 2
    have s3 := hfs 3
    have s4 := hfs 4
    have s5 := hfs 5
    clear hfs
    go_upto_region 17 with fail
    obtain ⟨w6, hw6⟩ : ∃ x, x = (((((w5.setCell ⟨w.heap.size + 1, 0, none⟩ (.int .i64 t.year)).setCell ⟨w.heap.size + 1, 1, none⟩ (.slice t.la t.last.length t.lc)).setCell ⟨w.heap.size + 1, 2, none⟩ (.slice t.ga t.given.length t.gc)).setCell ⟨w.heap.size + 1, 3, none⟩ (.slice t.ha t.heaps.length t.hc)).setCell ⟨w.heap.size + 1, 4, none⟩ (.slice t.ua t.used.length t.uc)).setCell ⟨w.heap.size + 1, 5, none⟩ (.slice t.wa t.waste.length t.wc) := ⟨_, rfl⟩
    rw [← hw6]
    have hX6 : Hid (RX s B w A c pl dry a t w6) := by rw [hw6]; exact hO5.out.given
    have hx6 : Hid (w6.heap[bh]? = some (.cells (hcells G) 77 (0, 0))) := by rw [hw6]; exact (set6_other _ _ _ _ _ _ (by omega)).trans hx5.out
    have r16 : Hid (RdParts w6 A1 CF) := r15.out.keep fun q hl e => by rw [hw6]; exact set6_other _ _ _ _ _ _ (by have := (hkp.out q hl e).1; omega)
    clear k0 k1 k2 k3 k4 k5 s0 s1 s2 s3 s4 s5
    replace hw6 := Lib.hid hw6
    obtain ⟨k0, k1, k2, k3, k4, k5⟩ := six_cells hX6.out.store
    obtain ⟨y0, y1, y2, y3, y4, y5, y6, y7, y8⟩ := nine_cells2 hX6.out.chore
    obtain ⟨x0, x1, x2, x3, x4, x5, x6⟩ := seven_cells hx6.out
    have hlen : t.heaps.length ≤ 16 := by
      have h1 : t.heaps.length = (keepP s k CR).heaps.length := hst.out.len
      have h2 := hkl.out.2 t7.out
      omega
    obtain ⟨H', hH'⟩ : ∃ H', H' = (⟨a.other, G.crop, 3, CF, a.per, G.wet, A1, ec1⟩ : Heap) := ⟨_, rfl⟩
    obtain ⟨wA, hwA⟩ : ∃ x, x = w6.alloc (.cells #[.string a.other, .int .i64 G.crop, .int .i64 3, .slice A1 CF.length ec1, .int .i64 a.per, .int .i64 G.wet.lo, .int .i64 G.wet.hi] 77) := ⟨_, rfl⟩
    have hbA : Below w6.heap.size w6 wA := by rw [hwA]; exact (Below.refl _ w6).alloc (Nat.le_refl _) _
    have hXA := Lib.hid (hX6.out.later hbA)
    have hnew : Hid (∀ q u, (encHeap H')[q]? = some u → wA.cell? ((⟨w6.heap.size, 0, none⟩ : Addr).add q) = some u) := fun q u hu => by
      rw [lit_add]
      have e : wA.heap[w6.heap.size]? = some (.cells (hcells H') 77 (0, 0)) := by rw [hwA, hH']; exact heap_new _ _ _ rfl
      simp only [World.cell?, e]
      simpa [encHeap] using hu
    have hone : Hid (∀ u ∈ encHeap H', u.oneCell' = true) := fun u hu => heaps_one [H'] u (by simpa using hu)
    have hm63 : Hid (t.heaps.length + 1 ≤ maxLen) := by unfold Hid maxLen; omega
    have hmby : Hid ((t.heaps.length + 1) * 80 ≤ 140737488355328) := by unfold Hid; omega
    have hbase : Hid (B ≤ wA.heap.size) := hXA.out.bLe
    have hpe : Hid (RdParts wA H'.pa H'.parts ∧ H'.name.size ≤ 140737488351232) := by unfold Hid; rw [hH']; exact ⟨r16.out.below hbA, ho2⟩
    have hpo : Hid (∀ k, H'.parts ≠ [] → blk H'.pa = some k → Off t (some (w.heap.size + 1)) k) := by unfold Hid; rw [hH']; exact hoff.out
    have hpf : Hid (∀ k, H'.parts ≠ [] → blk H'.pa = some k → Lies s k ∨ w.heap.size + 4 ≤ k) := by unfold Hid; rw [hH']; exact fun k h1 h2 => .inr (hkp.out k h1 h2).1
    replace hH' := Lib.hid hH'
    replace hbA := Lib.hid hbA
    have hnews : Hid (encHeap H' = [.string a.other, .int .i64 G.crop, .int .i64 3, .slice A1 CF.length ec1, .int .i64 a.per, .int .i64 G.wet.lo, .int .i64 G.wet.hi]) := by unfold Hid; rw [hH'.out]; rfl
    go_upto_region 18 with (at_builtin; rw [← hwA]; refine wp_app _ rfl _ _ 40 rfl B 77 7 80 Try.underlying40 info77 rfl (by decide) _ t.heaps.length (t.heaps.flatMap encHeap) rfl hXA.out.rows.heaps ⟨w6.heap.size, 0, none⟩ 1 1 (encHeap H') rfl rfl hnew.out hone.out hm63.out hmby.out hbase.out ?_; intro v' w9 hown hgrow hnear; obtain ⟨A', c', rfl, hX9, z3, z4⟩ := hXA.out.push hpe.out hpo.out hpf.out hown hgrow hnear (by omega); clear hown hgrow hnear k0 k1 k2 k3 k4 k5; replace hX9 := Lib.hid hX9)
    obtain ⟨w10, hw10⟩ : ∃ x, x = w9.setCell ⟨w.heap.size + 1, 3, none⟩ (.slice A' (t.heaps.length + 1) c') := ⟨_, rfl⟩
    rw [← hw10]
    have hX10 : Hid (RX s B w A c pl dry a { t with heaps := t.heaps ++ [H'], ha := A', hc := c' } w10) := by rw [hw10]; exact hX9.out
    replace hw10 := Lib.hid hw10
    obtain ⟨t10, ht10⟩ : ∃ t', t' = ({ t with heaps := t.heaps ++ [H'], ha := A', hc := c' } : Store) := ⟨_, rfl⟩
    rw [← ht10] at hX10
    replace ht10 := Lib.hid ht10
    clear z3 z4 hX9
    obtain ⟨k0, k1, k2, k3, k4, k5⟩ := six_cells hX10.out.store
    obtain ⟨d0, d1, d2, d3, d4, d5⟩ := cells6 hX10.out.out
    have f0 := hfz.out _ _ hX10.out 0
    have f1 := hfz.out _ _ hX10.out 1
    have f2 := hfz.out _ _ hX10.out 2
    have f3 := hfz.out _ _ hX10.out 3
    have f4 := hfz.out _ _ hX10.out 4
    have f5 := hfz.out _ _ hX10.out 5
    go_wp2_with fail
    rw [hr.out]
    refine hX10.out.fin (r := (0, _)) (fun _ => ?_) Try.results113 rfl rfl
    rw [ht10.out]
    have hp := SameC.push (s := t) (t := keepP s k CR) hst.out H' ⟨a.other, G.crop, 3, CF, a.per, G.wet, none, 0⟩ (by rw [hH'.out]; rfl)
    exact ⟨hp.year, hp.last, hp.given, hp.heaps, hp.used, hp.waste⟩
end Go.Proofs.Ytpgkhlpepckfgaa
end
section
namespace Go.Proofs.Ytpgkhlpepckfgaa
open Go.RowKit Go.Lib

set_option maxHeartbeats 4000000 in
set_option maxRecDepth 100000 in
theorem done_bind (B : Nat) (A : Option Addr) (pl : List Plot) (c : Nat) (dry : Int) (s : Store) (a : Chore) (w : World) (h : Rows B none s w) (hB : B ≤ w.heap.size) (hk : a.kind = 6) (hh16 : s.heaps.length ≤ 16) (hm : MildH s.heaps) (ho2 : a.other.size ≤ 140737488351232) :
    Calls Try.prog 78 #[.agg #[.slice A pl.length c, .int .i64 dry], storeVal s, choreVal a] w (RefOut B s (if nameIdx a.name s.heaps < 0 then (7, s) else bindP dry s (nameIdx a.name s.heaps).toNat a) w) := by
  have hq1 : (a.kind == 1) = false := by rw [hk]; rfl
  have hq2 : (a.kind == 2) = false := by rw [hk]; rfl
  have hq3 : (a.kind == 3) = false := by rw [hk]; rfl
  have hq4 : (a.kind == 4) = false := by rw [hk]; rfl
  have hq5 : (a.kind == 5) = false := by rw [hk]; rfl
  have hq6 : (a.kind == 6) = true := by rw [hk]; rfl
  have hq7 : (a.kind == 7) = false := by rw [hk]; rfl
  have hq8 : (a.kind == 8) = false := by rw [hk]; rfl
  replace hk := Lib.hid hk
  obtain ⟨W0, hW0⟩ : ∃ W0, W0 = RXw w A c pl dry a s := ⟨_, rfl⟩
  have hX0 : Hid (RX s B w A c pl dry a s W0) := by rw [hW0]; exact RX.make h hB
  unfold RXw at hW0
  have hat : Hid (Calls Try.prog 70 #[storeVal s, .string a.name] W0 fun e w' => e = .returned (.int .i64 (nameIdx a.name s.heaps)) ∧ Below W0.heap.size W0 w') := at_any s a.name W0 hX0.out.rows.store
  have hrg := nameIdx_range a.name s.heaps
  obtain ⟨i, hi⟩ : ∃ i, i = nameIdx a.name s.heaps := ⟨_, rfl⟩
  rw [← hi] at hat hrg ⊢
  replace hi := Lib.hid hi
  have hfz : Hid (∀ W t, RX s B w A c pl dry a t W → ∀ j, W.frozen? ⟨w.heap.size + 1 + 1 + 1, j, none⟩ = false) := fun W t h j => frozen_of_row W _ j _ _ h.out
  by_cases hneg : i < 0
  · rw [if_pos hneg]
    go_enter Try.func78, Try.ntmps78
    go_upto_region 2 with fail
    rw [← hW0]
    replace hW0 := Lib.hid hW0
    go_at_call 70
    (with_reducible refine hat.out.mono ?_)
    rintro e w1 ⟨rfl, hb1⟩
    have hX1 := Lib.hid (hX0.out.later hb1)
    have hb01 := Lib.hid hb1
    clear hX0 hat hb1
    obtain ⟨k0, k1, k2, k3, k4, k5⟩ := six_cells hX1.out.store
    obtain ⟨c0, c1, c2, c3, c4, c5, c6, c7, c8⟩ := nine_cells2 hX1.out.chore
    obtain ⟨p0, p1⟩ := cells2 hX1.out.farm
    obtain ⟨d0, d1, d2, d3, d4, d5⟩ := cells6 hX1.out.out
    have f0 := hfz.out _ _ hX1.out 0
    have f1 := hfz.out _ _ hX1.out 1
    have f2 := hfz.out _ _ hX1.out 2
    have f3 := hfz.out _ _ hX1.out 3
    have f4 := hfz.out _ _ hX1.out 4
    have f5 := hfz.out _ _ hX1.out 5
    go_wp2_with fail
    exact hX1.out.fin (r := (7, s)) (fun e => by cases e) Try.results78 rfl rfl
  rw [if_neg hneg]
  obtain ⟨k, hkk⟩ : ∃ k : Nat, i = (k : Int) := ⟨i.toNat, by omega⟩
  subst hkk
  rw [Int.toNat_natCast]
  have hkl : k < s.heaps.length := by omega
  clear hrg hneg
  go_enter Try.func78, Try.ntmps78
  go_upto_region 2 with fail
  rw [← hW0]
  replace hW0 := Lib.hid hW0
  go_at_call 70
  (with_reducible refine hat.out.mono ?_)
  rintro e w1 ⟨rfl, hb1⟩
  have hX1 := Lib.hid (hX0.out.later hb1)
  have hb01 := Lib.hid hb1
  clear hX0 hat hb1
  obtain ⟨k0, k1, k2, k3, k4, k5⟩ := six_cells hX1.out.store
  obtain ⟨c0, c1, c2, c3, c4, c5, c6, c7, c8⟩ := nine_cells2 hX1.out.chore
  obtain ⟨p0, p1⟩ := cells2 hX1.out.farm
  obtain ⟨d0, d1, d2, d3, d4, d5⟩ := cells6 hX1.out.out
  have f0 := hfz.out _ _ hX1.out 0
  have f1 := hfz.out _ _ hX1.out 1
  have f2 := hfz.out _ _ hX1.out 2
  have f3 := hfz.out _ _ hX1.out 3
  have f4 := hfz.out _ _ hX1.out 4
  have f5 := hfz.out _ _ hX1.out 5
  obtain ⟨G, hG⟩ : ∃ G, G = s.heaps[k] := ⟨_, rfl⟩
  obtain ⟨g, hg, hcG, hfG⟩ := hX1.out.rows.heapAt hkl
  rw [← hG] at hcG
  have hgd : Hid (s.heaps.getD k default = G) := by unfold Hid; rw [getD_lt _ hkl, hG]
  have hrG : RdParts w1 G.pa G.parts ∧ G.name.size ≤ 140737488351232 := hG ▸ hX1.out.rows.parts _ (List.getElem_mem hkl)
  have x0 : w1.cell? ⟨g, k * 7, none⟩ = some (.string G.name) := hcG 0 _ rfl
  have x1 : w1.cell? ⟨g, k * 7 + 1, none⟩ = some (.int .i64 G.crop) := hcG 1 _ rfl
  have x2 : w1.cell? ⟨g, k * 7 + 2, none⟩ = some (.int .i64 G.stage) := hcG 2 _ rfl
  have x3 : w1.cell? ⟨g, k * 7 + 3, none⟩ = some (.slice G.pa G.parts.length G.pc) := hcG 3 _ rfl
  have x4 : w1.cell? ⟨g, k * 7 + 4, none⟩ = some (.int .i64 G.per) := hcG 4 _ rfl
  have x5 : w1.cell? ⟨g, k * 7 + 5, none⟩ = some (.int .i64 G.wet.lo) := hcG 5 _ rfl
  have x6 : w1.cell? ⟨g, k * 7 + 6, none⟩ = some (.int .i64 G.wet.hi) := hcG 6 _ rfl
  rw [hg] at k3
  replace hg := Lib.hid hg
  replace hcG := Lib.hid hcG
  replace hfG := Lib.hid hfG
  replace hG := Lib.hid hG
  go_upto_region 13 with fail
  obtain ⟨w2, hw2⟩ : ∃ x, x = w1.alloc (.cells (hcells G) 77) := ⟨_, rfl⟩
  obtain ⟨bh, hbh⟩ : ∃ b, b = w1.heap.size := ⟨_, rfl⟩
  rw [← hw2, ← hbh]
  have hb2 : Below w1.heap.size w1 w2 := by rw [hw2]; exact (Below.refl _ w1).alloc (Nat.le_refl _) _
  have hx2 : Hid (w2.heap[bh]? = some (.cells (hcells G) 77 (0, 0))) := by unfold Hid; rw [hw2, hbh]; exact heap_new _ _ _ rfl
  have hX2 := Lib.hid (hX1.out.later hb2)
  have hrG2 := Lib.hid (hrG.1.below hb2)
  have hnG := Lib.hid hrG.2
  clear x0 x1 x2 x3 x4 x5 x6 k0 k1 k2 k3 k4 k5 c0 c1 c2 c3 c4 c5 c6 c7 c8 p0 p1 d0 d1 d2 d3 d4 d5 f0 f1 f2 f3 f4 f5 hrG hb2
  replace hw2 := Lib.hid hw2
  replace hbh := Lib.hid hbh
  obtain ⟨k0, k1, k2, k3, k4, k5⟩ := six_cells hX2.out.store
  obtain ⟨c0, c1, c2, c3, c4, c5, c6, c7, c8⟩ := nine_cells2 hX2.out.chore
  obtain ⟨p0, p1⟩ := cells2 hX2.out.farm
  obtain ⟨d0, d1, d2, d3, d4, d5⟩ := cells6 hX2.out.out
  have f0 := hfz.out _ _ hX2.out 0
  have f1 := hfz.out _ _ hX2.out 1
  have f2 := hfz.out _ _ hX2.out 2
  have f3 := hfz.out _ _ hX2.out 3
  have f4 := hfz.out _ _ hX2.out 4
  have f5 := hfz.out _ _ hX2.out 5
  obtain ⟨x0, x1, x2, x3, x4, x5, x6⟩ := seven_cells hx2.out
  have hme : Hid (Calls Try.prog 113 #[.agg #[.slice A pl.length c, .int .i64 dry], storeVal s, .int .i64 k, choreVal a] w2 (RefOut B s (bindP dry s k a) w2)) := bound_any B A pl c dry s k a w2 (hX2.out.rows.loose (Nat.le_refl _)) hX2.out.bLe hkl hh16 hm ho2
  clear d0 d1 d2 d3 d4 d5 f0 f1 f2 f3 f4 f5
  go_wp2_with fail
  go_at_call 113
  (with_reducible refine hme.out.mono ?_)
  rintro e w9 ⟨t, rfl, hb9, hr9, hk9⟩
  have hz9 := hX2.out.size
  have ho9 : w9.heap[w.heap.size + 1 + 1 + 1]? = some (.cells emptyC 43 (0, 0)) := (hk9 _ (by omega) (fun ho => by have := hX2.out.far _ (RX.ownLies ho); omega)).trans hX2.out.out
  obtain ⟨d0, d1, d2, d3, d4, d5⟩ := cells6 ho9
  have hfz9 : ∀ j, w9.frozen? ⟨w.heap.size + 1 + 1 + 1, j, none⟩ = false := fun j => frozen_of_row w9 _ j _ _ ho9
  have f0 := hfz9 0
  have f1 := hfz9 1
  have f2 := hfz9 2
  have f3 := hfz9 3
  have f4 := hfz9 4
  have f5 := hfz9 5
  clear hfz9
  replace ho9 := Lib.hid ho9
  replace hb9 := Lib.hid hb9
  replace hr9 := Lib.hid hr9
  replace hk9 := Lib.hid hk9
  go_wp2_with fail
  refine bodyPost_ret (ret_store Try.results78 rfl rfl (set6 _ _ _ _ _ _ ho9.out)) rfl ?_
  have hz := hb9.out.size
  have hB' := hX2.out.hB
  refine ⟨t, rfl, set6_below _ _ _ _ _ _ (hX2.out.below.trans hb9.out) (by omega), fun e => ?_, fun q hq hn => (set6_other _ _ _ _ _ _ (by omega)).trans ((hk9.out q (by omega) hn).trans (hX2.out.kept q hq hn))⟩
  obtain ⟨q1, q2, q3⟩ := hr9.out e
  refine ⟨q1, q2.put6 (by omega) (fun q hq => ?_) _ _ _ _ _ _, fun q hq => ?_⟩
  · rcases q3 q hq with h1 | h1
    · have := hX2.out.far q h1; omega
    · omega
  · rcases q3 q hq with h1 | h1
    · exact .inl h1
    · exact .inr (by omega)
end Go.Proofs.Ytpgkhlpepckfgaa
end
section
namespace Go.Proofs.Ytpgkhlpepckfgaa
open Go.RowKit Go.Lib

/-- Parts of a store that may be have loads. -/
theorem DoG.pos {pl : List Plot} {dry : Int} {s : Store} (h : DoG pl dry s) : ∀ x ∈ s.heaps, ∀ p ∈ x.parts, 0 < p.loads := fun x hx p hp => by
  have hs := h.store
  rw [storeB_eq, Bool.and_eq_true, Bool.and_eq_true, Bool.and_eq_true] at hs
  obtain ⟨j, hj, rfl⟩ := List.mem_iff_getElem.1 hx
  have h1 := allB_get hs.1.1.2 hj
  unfold heapAt at h1
  rw [getD_lt _ hj, Bool.and_eq_true] at h1
  have h2 := heapB_proper h1.2
  obtain ⟨y, hy, rfl⟩ := List.mem_iff_getElem.1 hp
  have hpy := allB_get h2 hy
  rw [partAt_get hy] at hpy
  simp only [Bool.and_eq_true, inB, decide_eq_true_eq] at hpy
  omega
theorem done_any (B : Nat) (A : Option Addr) (pl : List Plot) (c : Nat) (dry : Int) (s : Store) (a : Chore) (w : World) (h : Rows B none s w) (hB : B ≤ w.heap.size) (hP : RdPlots w A pl) (hG : DoG pl dry s)
    (ho1 : a.name.size ≤ 140737488351232) (ho2 : a.other.size ≤ 140737488351232) (hk : 1 ≤ a.kind ∧ a.kind ≤ 8) :
    Calls Try.prog 78 #[.agg #[.slice A pl.length c, .int .i64 dry], storeVal s, choreVal a] w (RefOut B s (workP pl dry s a) w) := by
  unfold workP
  rcases kinds hk with e | e | e | e | e | e | e | e
  · rw [if_pos e]; exact done_year B A pl c dry s a w h hB e hG.year
  · rw [if_neg (by omega), if_pos e]; exact done_cut B A pl c dry s a w h hB e hP hG ho1
  · rw [if_neg (by omega), if_neg (by omega), if_pos e]; exact done_dry B A pl c dry s a w h hB e hG.wet
  · rw [if_neg (by omega), if_neg (by omega), if_neg (show ¬ a.kind = 3 by omega), if_pos e]; exact done_comb B A pl c dry s a w h hB e hG.waste hG.heaps hG.pos
  · rw [if_neg (by omega), if_neg (by omega), if_neg (show ¬ a.kind = 3 by omega), if_neg (show ¬ a.kind = 4 by omega), if_pos e]; exact done_join B A pl c dry s a w h hB e hG.heaps hG.pos
  · rw [if_neg (by omega), if_neg (by omega), if_neg (show ¬ a.kind = 3 by omega), if_neg (show ¬ a.kind = 4 by omega), if_neg (show ¬ a.kind = 5 by omega), if_pos e]; exact done_bind B A pl c dry s a w h hB e hG.hlen hG.heaps ho2
  · rw [if_neg (by omega), if_neg (by omega), if_neg (show ¬ a.kind = 3 by omega), if_neg (show ¬ a.kind = 4 by omega), if_neg (show ¬ a.kind = 5 by omega), if_neg (show ¬ a.kind = 6 by omega), if_pos e]; exact done_use B A pl c dry s a w h hB e hG.used hG.heaps hG.pos hG.per
  · rw [if_neg (by omega), if_neg (by omega), if_neg (show ¬ a.kind = 3 by omega), if_neg (show ¬ a.kind = 4 by omega), if_neg (show ¬ a.kind = 5 by omega), if_neg (show ¬ a.kind = 6 by omega), if_neg (show ¬ a.kind = 7 by omega)]; exact done_rot B A pl c dry s a w h hB e hG.waste hG.heaps hG.pos
end Go.Proofs.Ytpgkhlpepckfgaa
end
