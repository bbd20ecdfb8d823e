/-
  A field is cut, as the specification has it: walked. A field is cut, as the specification has it: walked. What is used and wasted, while a chore is done as the specification has it. Heaps are combed, as the specification has it: walked.
-/
import Derived.Test.YtpgkhlpepckfgaaXa15
import Derived.Test.YtpgkhlpepckfgaaXa18
import Derived.Test.YtpgkhlpepckfgaaXa20
import Derived.Test.YtpgkhlpepckfgaaXa31
import Derived.Test.YtpgkhlpepckfgaaXb00
import Derived.Test.YtpgkhlpepckfgaaXb01
import Derived.BigQuiet
import Derived.Deep.DeepCutAuto
set_option linter.all false
set_option linter.unusedVariables false
set_option linter.unusedSimpArgs false
section
namespace Go.Proofs.Ytpgkhlpepckfgaa
open Go.RowKit Go.Lib

set_option maxHeartbeats 4000000 in
set_option maxRecDepth 100000 in
theorem mown_any (B : Nat) (A : Option Addr) (pl : List Plot) (c : Nat) (dry : Int) (s : Store) (a : Chore) (w : World) (h : Rows B none s w) (hB : B ≤ w.heap.size) (hP : RdPlots w A pl) (hG : DoG pl dry s) (ho1 : a.name.size ≤ 140737488351232) :
    Calls Try.prog 109 #[.agg #[.slice A pl.length c, .int .i64 dry], storeVal s, choreVal a] w (RefOut B s (mowP pl s a) w) := by
  obtain ⟨W0, hW0⟩ : ∃ W0, W0 = RXw w A c pl dry a s := ⟨_, rfl⟩
  have hX0 : Hid (RX s B w A c pl dry a s W0) := by rw [hW0]; exact RX.make h hB
  have hb0 : Hid (Below w.heap.size w W0) := by rw [hW0]; exact ((((Below.refl _ w).alloc (Nat.le_refl _) _).alloc (by simp) _).alloc (by simp; omega) _).alloc (by simp; omega) _
  unfold RXw at hW0
  have hpl := hG.plots
  have hwn : IntKind.i64.wrap ((pl.length : Int) - 1) = (pl.length : Int) - 1 := IntWalk.i64_in _ (by omega)
  obtain ⟨k0, k1, k2, k3, k4, k5⟩ := six_cells hX0.out.store
  obtain ⟨c0, c1, c2, c3, c4, c5, c6, c7, c8⟩ := nine_cells2 hX0.out.chore
  obtain ⟨p0, p1⟩ := cells2 hX0.out.farm
  obtain ⟨d0, d1, d2, d3, d4, d5⟩ := cells6 hX0.out.out
  have hfz : Hid (∀ W t, RX s B w A c pl dry a t W → ∀ j, W.frozen? ⟨w.heap.size + 1 + 1 + 1, j, none⟩ = false) := fun W t h j => frozen_of_row W _ j _ _ h.out
  have f0 := hfz.out _ _ hX0.out 0
  have f1 := hfz.out _ _ hX0.out 1
  have f2 := hfz.out _ _ hX0.out 2
  have f3 := hfz.out _ _ hX0.out 3
  have f4 := hfz.out _ _ hX0.out 4
  have f5 := hfz.out _ _ hX0.out 5
  replace hG := Lib.hid hG
  go_enter Try.func109, Try.ntmps109
  go_upto_region 1 with fail
  rw [← hW0]
  replace hW0 := Lib.hid hW0
  cases t1 : inB a.plot 0 ((pl.length : Int) - 1) with
  | false =>
    have hr : Hid (mowP pl s a = (7, s)) := by unfold Hid mowP; rw [if_pos t1]
    go_wp2_with (go_at_call 49; (with_reducible refine (rin_any _ _ _ _).mono ?_); rintro e w1 ⟨rfl, rfl⟩; rw [t1])
    rw [hr.out]
    exact hX0.out.fin (r := (7, s)) (fun e => by cases e) Try.results109 rfl rfl
  | true =>
  cases t2 : nameB a.name with
  | false =>
    have hr : Hid (mowP pl s a = (5, s)) := by unfold Hid mowP; rw [if_neg (by rw [t1]; decide), if_pos t2]
    go_wp2_with (first | (go_at_call 49; (with_reducible refine (rin_any _ _ _ _).mono ?_); rintro e w1 ⟨rfl, rfl⟩; rw [t1]) | (go_at_call 56; (with_reducible refine (rName_any _ _ (by omega)).mono ?_); rintro e w1 ⟨rfl, rfl⟩; rw [t2]))
    rw [hr.out]
    exact hX0.out.fin (r := (5, s)) (fun e => by cases e) Try.results109 rfl rfl
  | true =>
  have hat : Hid (Calls Try.prog 70 #[storeVal s, .string a.name] W0 fun e w' => e = .returned (.int .i64 (nameIdx a.name s.heaps)) ∧ Below W0.heap.size W0 w') := at_any s a.name W0 hX0.out.rows.store
  by_cases t3 : 0 ≤ nameIdx a.name s.heaps
  · have hr : Hid (mowP pl s a = (6, s)) := by unfold Hid mowP; rw [if_neg (by rw [t1]; decide), if_neg (by rw [t2]; decide), if_pos t3]
    obtain ⟨i, hi⟩ : ∃ i, i = nameIdx a.name s.heaps := ⟨_, rfl⟩
    rw [← hi] at hat t3
    have t3d : decide (0 ≤ i) = true := decide_eq_true t3
    replace hi := Lib.hid hi
    go_wp2_with (first | (go_at_call 49; (with_reducible refine (rin_any _ _ _ _).mono ?_); rintro e w1 ⟨rfl, rfl⟩; rw [t1]) | (go_at_call 56; (with_reducible refine (rName_any _ _ (by omega)).mono ?_); rintro e w1 ⟨rfl, rfl⟩; rw [t2]) | (go_at_call 70; (with_reducible refine hat.out.mono ?_); rintro e w1 ⟨rfl, hb1⟩; have hX1 := Lib.hid (hX0.out.later hb1); clear k0 k1 k2 k3 k4 k5 d0 d1 d2 d3 d4 d5 f0 f1 f2 f3 f4 f5; obtain ⟨k0, k1, k2, k3, k4, k5⟩ := six_cells hX1.out.store; obtain ⟨d0, d1, d2, d3, d4, d5⟩ := cells6 hX1.out.out; have f0 := hfz.out _ _ hX1.out 0; have f1 := hfz.out _ _ hX1.out 1; have f2 := hfz.out _ _ hX1.out 2; have f3 := hfz.out _ _ hX1.out 3; have f4 := hfz.out _ _ hX1.out 4; have f5 := hfz.out _ _ hX1.out 5))
    rw [hr.out]
    exact hX1.out.fin (r := (6, s)) (fun e => by cases e) Try.results109 rfl rfl
  · obtain ⟨i, hi⟩ : ∃ i, i = nameIdx a.name s.heaps := ⟨_, rfl⟩
    rw [← hi] at hat t3
    have t3d : decide (0 ≤ i) = false := decide_eq_false t3
    have t3n : Hid (nameIdx a.name s.heaps < 0) := Int.not_le.1 (hi ▸ t3)
    clear t3
    replace hi := Lib.hid hi
    have hin := t1
    simp only [inB, Bool.and_eq_true, decide_eq_true_eq] at hin
    obtain ⟨p, hp⟩ : ∃ p : Nat, a.plot = (p : Int) := ⟨a.plot.toNat, by omega⟩
    have hpl2 : p < pl.length := by omega
    obtain ⟨P, hPe⟩ : ∃ P, P = pl[p] := ⟨_, rfl⟩
    have hpd : Hid (pl.getD a.plot.toNat default = P) := by unfold Hid; rw [hp, Int.toNat_natCast, getD_lt _ hpl2, hPe]
    obtain ⟨⟨z1, z2⟩, ⟨z3, z4, z5⟩, z6, z7⟩ := hPe ▸ hG.out.plot _ (List.getElem_mem hpl2)
    replace hPe := Lib.hid hPe
    rw [hp] at c1
    replace hp := Lib.hid hp
    go_wp2_with (first | (go_at_call 49; (with_reducible refine (rin_any _ _ _ _).mono ?_); rintro e w1 ⟨rfl, rfl⟩; rw [show inB (p : Int) 0 ((pl.length : Int) - 1) = true from hp.out ▸ t1]) | (go_at_call 56; (with_reducible refine (rName_any _ _ (by omega)).mono ?_); rintro e w1 ⟨rfl, rfl⟩; rw [t2]) | (go_at_call 70; (with_reducible refine hat.out.mono ?_); rintro e w1 ⟨rfl, hb1⟩; have hX1 := Lib.hid (hX0.out.later hb1); clear k0 k1 k2 k3 k4 k5 d0 d1 d2 d3 d4 d5 f0 f1 f2 f3 f4 f5 c0 c1 c2 c3 c4 c5 c6 c7 c8 p0 p1; obtain ⟨k0, k1, k2, k3, k4, k5⟩ := six_cells hX1.out.store; obtain ⟨c0, c1, c2, c3, c4, c5, c6, c7, c8⟩ := nine_cells2 hX1.out.chore; rw [hp.out] at c1; obtain ⟨p0, p1⟩ := cells2 hX1.out.farm; obtain ⟨ad, hA, x0, x1, x2, x3, x4, x5, x6, x7, x8⟩ := (hP.below (hb0.out.trans (hb1.mono hb0.out.size))).1.at9 hpl2 rfl; rw [← hPe.out] at x0 x1 x2 x3 x4 x5 x6 x7 x8; rw [hA] at p0; replace hA := Lib.hid hA))
    obtain ⟨w2, hw2⟩ : ∃ x, x = w1.alloc (.cells (plotCells P) 88) := ⟨_, rfl⟩
    obtain ⟨bx, hbx⟩ : ∃ b, b = w1.heap.size := ⟨_, rfl⟩
    rw [← hw2, ← hbx]
    have hb2 : Below w1.heap.size w1 w2 := by rw [hw2]; exact (Below.refl _ w1).alloc (Nat.le_refl _) _
    have hx2 : Hid (w2.heap[bx]? = some (.cells (plotCells P) 88 (0, 0))) := by unfold Hid; rw [hw2, hbx]; exact heap_new _ _ _ rfl
    have hX2 := Lib.hid (hX1.out.later hb2)
    have hl1 := hG.out.last
    have hl2 := hG.out.given
    have hpl3 : p < s.last.length := by omega
    have hpg3 : p < s.given.length := by omega
    replace hl1 := Lib.hid hl1
    replace hl2 := Lib.hid hl2
    obtain ⟨gl, hgl, l0, lf⟩ := hX2.out.rows.lastAt hpl3
    obtain ⟨lv, hlve⟩ : ∃ lv, lv = s.last[p] := ⟨_, rfl⟩
    have hlb := hlve ▸ hG.out.lasts _ (List.getElem_mem hpl3)
    rw [← hlve] at l0
    have hld : Hid (s.last.getD a.plot.toNat 0 = lv) := by unfold Hid; rw [hp.out, Int.toNat_natCast, getD_lt _ hpl3, hlve]
    replace hlve := Lib.hid hlve
    replace hw2 := Lib.hid hw2
    replace hbx := Lib.hid hbx
    clear k0 k1 k2 k3 k4 k5 c0 c1 c2 c3 c4 c5 c6 c7 c8 p0 p1 x0 x1 x2 x3 x4 x5 x6 x7 x8 hb2
    have hy := hG.out.year
    have hsub : IntKind.i64.wrap (s.year - P.rest) = s.year - P.rest := IntWalk.i64_in _ (by omega)
    obtain ⟨k0, k1, k2, k3, k4, k5⟩ := six_cells hX2.out.store
    obtain ⟨c0, c1, c2, c3, c4, c5, c6, c7, c8⟩ := nine_cells2 hX2.out.chore
    obtain ⟨m0, m1, m2, m3, m4, m5, m6, m7, m8⟩ := nine_cells2 hx2.out
    rw [hgl] at k1
    rw [hp.out] at c1
    have hgl' := Lib.hid hgl
    clear hgl
    obtain ⟨bad, hbad⟩ : ∃ b : Bool, b = decide (0 ≤ lv ∧ s.year - P.rest < lv) := ⟨_, rfl⟩
    go_cut [55] from 35 to 54 (fun v wx => v = .bool bad ∧ ∃ n, wx = w2.drewN n)
    case first =>
      by_cases q1 : 0 ≤ lv
      · have q1d : decide (0 ≤ lv) = true := decide_eq_true q1
        by_cases q2 : s.year - P.rest < lv
        · have q2d : decide (s.year - P.rest < lv) = true := decide_eq_true q2
          have hb : Hid (bad = true) := by unfold Hid; rw [hbad]; exact decide_eq_true ⟨q1, q2⟩
          clear hbad
          go_big_quiet (fail)
          go_wp2_with fail
          go_meet
          exact ⟨by rw [hb.out], _, rfl⟩
        · have q2d : decide (s.year - P.rest < lv) = false := decide_eq_false q2
          have hb : Hid (bad = false) := by unfold Hid; rw [hbad]; exact decide_eq_false (fun h => q2 h.2)
          clear hbad
          go_big_quiet (fail)
          go_wp2_with fail
          go_meet
          exact ⟨by rw [hb.out], _, rfl⟩
      · have q1d : decide (0 ≤ lv) = false := decide_eq_false q1
        have hb : Hid (bad = false) := by unfold Hid; rw [hbad]; exact decide_eq_false (fun h => q1 h.1)
        clear hbad
        go_big_quiet (fail)
        go_wp2_with fail
        go_meet
        exact ⟨by rw [hb.out], _, rfl⟩
    case rest =>
      obtain ⟨rfl, n3, rfl⟩ := hcut
      obtain ⟨w3, hw3⟩ : ∃ x, x = w2.drewN n3 := ⟨_, rfl⟩
      rw [← hw3]
      have hb3 : Below w2.heap.size w2 w3 := by rw [hw3]; exact below_drewN_ _ _
      have hX3 := Lib.hid (hX2.out.later hb3)
      have hx3 : Hid (w3.heap[bx]? = some (.cells (plotCells P) 88 (0, 0))) := by unfold Hid; rw [hw3]; exact hx2.out
      clear k0 k1 k2 k3 k4 k5 c0 c1 c2 c3 c4 c5 c6 c7 c8 m0 m1 m2 m3 m4 m5 m6 m7 m8 l0 lf hb3
      replace hw3 := Lib.hid hw3
      obtain ⟨k0, k1, k2, k3, k4, k5⟩ := six_cells hX3.out.store
      obtain ⟨c0, c1, c2, c3, c4, c5, c6, c7, c8⟩ := nine_cells2 hX3.out.chore
      obtain ⟨m0, m1, m2, m3, m4, m5, m6, m7, m8⟩ := nine_cells2 hx3.out
      obtain ⟨d0, d1, d2, d3, d4, d5⟩ := cells6 hX3.out.out
      have f0 := hfz.out _ _ hX3.out 0
      have f1 := hfz.out _ _ hX3.out 1
      have f2 := hfz.out _ _ hX3.out 2
      have f3 := hfz.out _ _ hX3.out 3
      have f4 := hfz.out _ _ hX3.out 4
      have f5 := hfz.out _ _ hX3.out 5
      cases bad with
      | true =>
        have hq := of_decide_eq_true hbad.symm
        have hr : Hid (mowP pl s a = (8, s)) := by unfold Hid mowP; rw [if_neg (by rw [t1]; decide), if_neg (by rw [t2]; decide), if_neg (Int.not_le.2 t3n.out), hld.out, hpd.out, if_pos (by omega)]
        clear hbad
        go_wp2_with fail
        rw [hr.out]
        exact hX3.out.fin (r := (8, s)) (fun e => by cases e) Try.results109 rfl rfl
      | false =>
        have hq := of_decide_eq_false hbad.symm
        clear hbad
        have hq' : lv < 0 ∨ lv ≤ s.year - P.rest := by omega
        replace hq' := Lib.hid hq'
        clear hq
        have hs0 : 0 ≤ P.size * P.yield.lo := Int.mul_nonneg (by omega) (by omega)
        have hs1 : P.size * P.yield.lo ≤ 100 * 1000 := Int.mul_le_mul (by omega) (by omega) (by omega) (by omega)
        have hs2 : 0 ≤ P.size * P.yield.hi := Int.mul_nonneg (by omega) (by omega)
        have hs3 : P.size * P.yield.hi ≤ 100 * 1000 := Int.mul_le_mul (by omega) (by omega) (by omega) (by omega)
        obtain ⟨y1, hy1⟩ : ∃ y, y = P.size * P.yield.lo := ⟨_, rfl⟩
        obtain ⟨y2, hy2⟩ : ∃ y, y = P.size * P.yield.hi := ⟨_, rfl⟩
        rw [← hy1] at hs0 hs1
        rw [← hy2] at hs2 hs3
        have w1' : IntKind.i64.wrap (P.size * P.yield.lo) = y1 := by rw [← hy1]; exact IntWalk.i64_in _ (by omega)
        have w2' : IntKind.i64.wrap (P.size * P.yield.hi) = y2 := by rw [← hy2]; exact IntWalk.i64_in _ (by omega)
        have hmax : ∀ (w : World) (ts : Array TypeId) (t : TypeId), (Builtin.max_ ts t #[.int .i64 1, .int .i64 y1]).run Try.prog w = .ok (.int .i64 (max 1 y1)) w := fun w ts t => run_max_ints w ts t _ _ _ _
        replace hy1 := Lib.hid hy1
        replace hy2 := Lib.hid hy2
        have hin4 : inB a.loads (max 1 y1) y2 = true ↔ (a.loads ≠ 0 ∧ inB a.loads y1 y2 = true) := by
          simp only [inB, Bool.and_eq_true, decide_eq_true_eq]; omega
        cases t4 : inB a.loads (max 1 y1) y2 with
        | false =>
          have hr : Hid (mowP pl s a = (1, s)) := by
            unfold Hid mowP
            rw [if_neg (by rw [t1]; decide), if_neg (by rw [t2]; decide), if_neg (Int.not_le.2 t3n.out), hld.out, hpd.out, if_neg (by have := hq'.out; omega), ← hy1.out, ← hy2.out, if_pos (by rw [← hin4, t4]; decide)]
          clear hin4
          go_wp2_with (go_at_call 49; (with_reducible refine (rin_any _ _ _ _).mono ?_); rintro e w4 ⟨rfl, rfl⟩; rw [t4])
          rw [hr.out]
          exact hX3.out.fin (r := (1, s)) (fun e => by cases e) Try.results109 rfl rfl
        | true =>
          have hin5 := Lib.hid (hin4.1 t4)
          have hlb : Hid (0 ≤ a.loads ∧ a.loads ≤ 100000) := by
            have := hin5.out.2
            simp only [inB, Bool.and_eq_true, decide_eq_true_eq] at this
            unfold Hid; omega
          clear hin4
          go_wp2_with (go_at_call 49; (with_reducible refine (rin_any _ _ _ _).mono ?_); rintro e w4 ⟨rfl, rfl⟩; rw [t4])
          obtain ⟨full, hfull⟩ : ∃ b : Bool, b = decide (s.heaps.length = 16 ∨ 100000 < totalS s + a.loads) := ⟨_, rfl⟩
          have htot := hG.out.total
          have htot0 : 0 ≤ totalS s := hG.out.total0
          obtain ⟨T, hT⟩ : ∃ T, T = totalS s := ⟨_, rfl⟩
          have htc : Hid (∀ W, RX s B w A c pl dry a s W → Calls Try.prog 89 #[storeVal s] W fun e w' => e = .returned (.int .i64 T) ∧ Below W.heap.size W w') := fun W hW => hT ▸ total_any s W hW.rows.store hG.out.heaps hG.out.used hG.out.waste
          rw [← hT] at htot htot0 hfull
          replace hT := Lib.hid hT
          have hlb1 := hlb.out.1
          have hlb2 := hlb.out.2
          have hwt : IntKind.i64.wrap (T + a.loads) = T + a.loads := IntWalk.i64_in _ (by omega)
          have hh16 := hG.out.hlen
          go_cut [86] from 75 to 85 (fun v wx => v = .bool full ∧ Hid (Below w3.heap.size w3 wx))
          case first =>
            by_cases q1 : s.heaps.length = 16
            · have q1b : (((s.heaps.length : Nat) : Int) == 16) = true := by rw [q1]; rfl
              have hb : Hid (full = true) := by unfold Hid; rw [hfull]; exact decide_eq_true (.inl q1)
              clear hfull
              replace q1 := Lib.hid q1
              go_big_quiet (fail)
              go_wp2_with fail
              go_meet
              exact ⟨by rw [hb.out], below_drewN_ _ _⟩
            · have q1b : (((s.heaps.length : Nat) : Int) == 16) = false := by simp; omega
              have q1h : Hid (¬ s.heaps.length = 16) := q1
              clear q1
              refine wp_region_tree (fun W => RX s B w A c pl dry a s W) (.pure 0 (.read 1 (.pure 2 (.pure 3 (.pure 4 (.read 5 (.pure 7 (.read 8 (.one 6 (.pure 9 (.pure 10 (.one 11 .done)))))))))))) [] (by kernel_rfl) (by kernel_rfl) (hX3.out.later (below_drewN_ w3 1)) ?_
              have hX3d := Lib.hid (hX3.out.later (below_drewN_ w3 1))
              obtain ⟨wq, hwq⟩ : ∃ x, x = w3.drew := ⟨_, rfl⟩
              have hXq : Hid (RX s B w A c pl dry a s wq) := by rw [hwq]; exact hX3d.out
              have hbq : Hid (Below w3.heap.size w3 wq) := by rw [hwq]; exact below_drewN_ w3 1
              rw [← hwq]
              replace hwq := Lib.hid hwq
              repeat
                ((first | (refine wpTree_pure (v := ?_) rfl (by rfl) ?_ (fun _ _ _ h => h) ?_) | (refine wpTree_take (v := ?_) rfl (by rfl) ?_ (fun _ _ _ h => h) ?_))
                 rotate_left
                 (focus (intro w'; (try (intro hSw; obtain ⟨k0, k1, k2, k3, k4, k5⟩ := six_cells hSw.store; obtain ⟨c0, c1, c2, c3, c4, c5, c6, c7, c8⟩ := nine_cells2 hSw.chore; clear hSw)); (try simp only [List.getElem_toArray, List.getElem_cons_zero, List.getElem_cons_succ]); go_simp; try with_reducible rfl))
                 simp only [List.getElem_toArray, List.getElem_cons_zero, List.getElem_cons_succ, Act.put, List.setIfInBounds_toArray, List.set_cons_zero, List.set_cons_succ])
              refine wpTree_do rfl (by rfl) ?_
              (try simp only [List.getElem_toArray, List.getElem_cons_zero, List.getElem_cons_succ])
              go_simp
              go_at_call 89
              (with_reducible refine (htc.out _ hXq.out).mono ?_)
              rintro e w5 ⟨rfl, hb5⟩
              have hX5 := hXq.out.later hb5
              refine ⟨fun _ => hX5, ?_⟩
              refine wpTree_pure (v := ?_) rfl (by rfl) ?_ (fun _ _ _ h => h) ?_
              rotate_left
              focus (intro w'; (try simp only [List.getElem_toArray, List.getElem_cons_zero, List.getElem_cons_succ]); go_simp; try with_reducible rfl)
              simp only [List.getElem_toArray, List.getElem_cons_zero, List.getElem_cons_succ, Act.put, List.setIfInBounds_toArray, List.set_cons_zero, List.set_cons_succ]
              refine wpTree_pure (v := ?_) rfl (by rfl) ?_ (fun _ _ _ h => h) ?_
              rotate_left
              focus (intro w'; (try simp only [List.getElem_toArray, List.getElem_cons_zero, List.getElem_cons_succ]); go_simp; try with_reducible rfl)
              simp only [List.getElem_toArray, List.getElem_cons_zero, List.getElem_cons_succ, Act.put, List.setIfInBounds_toArray, List.set_cons_zero, List.set_cons_succ]
              refine wpTree_do rfl (by rfl) ?_
              (try simp only [List.getElem_toArray, List.getElem_cons_zero, List.getElem_cons_succ])
              go_simp
              unfold wpTree
              go_wp2_with fail
              go_meet
              refine ⟨?_, hbq.out.trans (hb5.mono hbq.out.size)⟩
              congr 1
              rw [hfull]
              exact decide_eq_decide.2 ⟨fun h => .inr h, fun h => h.resolve_left q1h.out⟩
          case rest =>
            obtain ⟨rfl, hb6⟩ := hcut
            obtain ⟨w6, hw6⟩ : ∃ x, x = wc := ⟨_, rfl⟩
            rw [← hw6] at hb6 ⊢
            clear hw6
            have hX6 := Lib.hid (hX3.out.later hb6.out)
            have hx6 : Hid (w6.heap[bx]? = some (.cells (plotCells P) 88 (0, 0))) := (hb6.out.block _ (Array.getElem?_eq_some_iff.1 hx3.out).1).trans hx3.out
            clear k0 k1 k2 k3 k4 k5 c0 c1 c2 c3 c4 c5 c6 c7 c8 m0 m1 m2 m3 m4 m5 m6 m7 m8 d0 d1 d2 d3 d4 d5 f0 f1 f2 f3 f4 f5 hb6
            obtain ⟨k0, k1, k2, k3, k4, k5⟩ := six_cells hX6.out.store
            obtain ⟨c0, c1, c2, c3, c4, c5, c6, c7, c8⟩ := nine_cells2 hX6.out.chore
            obtain ⟨m0, m1, m2, m3, m4, m5, m6, m7, m8⟩ := nine_cells2 hx6.out
            obtain ⟨d0, d1, d2, d3, d4, d5⟩ := cells6 hX6.out.out
            have f0 := hfz.out _ _ hX6.out 0
            have f1 := hfz.out _ _ hX6.out 1
            have f2 := hfz.out _ _ hX6.out 2
            have f3 := hfz.out _ _ hX6.out 3
            have f4 := hfz.out _ _ hX6.out 4
            have f5 := hfz.out _ _ hX6.out 5
            cases full with
            | true =>
              have hq := of_decide_eq_true hfull.symm
              have hr : Hid (mowP pl s a = (3, s)) := by
                unfold Hid mowP
                rw [if_neg (by rw [t1]; decide), if_neg (by rw [t2]; decide), if_neg (Int.not_le.2 t3n.out), hld.out, hpd.out, if_neg (by have := hq'.out; omega), ← hy1.out, ← hy2.out, if_neg (fun h => h hin5.out), hG.out.given_sum, ← hT.out, if_pos (by omega)]
              clear hfull
              replace hq := Lib.hid hq
              go_wp2_with fail
              rw [hr.out]
              exact hX6.out.fin (r := (3, s)) (fun e => by cases e) Try.results109 rfl rfl
            | false =>
              have hq := of_decide_eq_false hfull.symm
              clear hfull
              have hr : Hid (mowP pl s a = (0, { s with last := s.last.set p s.year, given := s.given.set p (s.given[p] + a.loads), heaps := s.heaps ++ [⟨a.name, P.crop, 1, [⟨p, a.loads⟩], 0, P.wet, none, 0⟩] })) := by
                unfold Hid mowP
                rw [if_neg (by rw [t1]; decide), if_neg (by rw [t2]; decide), if_neg (Int.not_le.2 t3n.out), hld.out, hpd.out, if_neg (by have := hq'.out; omega), ← hy1.out, ← hy2.out, if_neg (fun h => h hin5.out), hG.out.given_sum, ← hT.out, if_neg (by omega), hp.out, Int.toNat_natCast, getD_lt _ hpg3]
              have hh15 : Hid (s.heaps.length < 16) := by unfold Hid; omega
              replace hq := Lib.hid hq
              obtain ⟨gl2, e2, l0, lf⟩ := hX6.out.rows.lastAt hpl3
              rw [hgl'.out] at e2 k1
              cases e2
              rw [← hlve.out] at l0
              rw [hp.out] at c1
              go_upto_region 15 with fail
              obtain ⟨w7, hw7⟩ : ∃ x, x = w6.setCell ⟨gl, p, none⟩ (.int .i64 s.year) := ⟨_, rfl⟩
              rw [← hw7]
              have hX7 : Hid (RX s B w A c pl dry a { s with last := s.last.set p s.year } w7) := by rw [hw7]; exact hX6.out.lastTo hgl'.out s.year
              have hx7 : Hid (w7.heap[bx]? = some (.cells (plotCells P) 88 (0, 0))) := by
                rw [hw7]
                refine (Below.heap_setCell _ _ _ _ ?_).trans hx6.out
                have := (h.lastLt (k := gl) (by rw [hgl'.out]; rfl)).2
                have := hX1.out.size
                show bx ≠ gl
                rw [hbx.out]; omega
              have hgv := hG.out.givens _ (List.getElem_mem hpg3)
              obtain ⟨gg, hgg, g0, gf⟩ := hX7.out.rows.givenAt (i := p) hpg3
              obtain ⟨gv, hgve⟩ : ∃ gv, gv = s.given[p] := ⟨_, rfl⟩
              rw [show ({ s with last := s.last.set p s.year } : Store).given[p] = gv from hgve.symm] at g0
              rw [← hgve] at hgv hr
              clear k0 k1 k2 k3 k4 k5 c0 c1 c2 c3 c4 c5 c6 c7 c8 m0 m1 m2 m3 m4 m5 m6 m7 m8 l0 lf d0 d1 d2 d3 d4 d5 f0 f1 f2 f3 f4 f5
              replace hw7 := Lib.hid hw7
              replace hgve := Lib.hid hgve
              obtain ⟨k0, k1, k2, k3, k4, k5⟩ := six_cells hX7.out.store
              obtain ⟨c0, c1, c2, c3, c4, c5, c6, c7, c8⟩ := nine_cells2 hX7.out.chore
              have hgg' : Hid (s.ga = some ⟨gg, 0, none⟩) := hgg
              rw [show ({ s with last := s.last.set p s.year } : Store).ga = s.ga from rfl, hgg'.out] at k2
              rw [hp.out] at c1
              clear hgg
              have hwg : IntKind.i64.wrap (gv + a.loads) = gv + a.loads := IntWalk.i64_in _ (by omega)
              refine wp_region_last 14 rfl (by kernel_rfl) (by kernel_rfl) ?_
              simp only [List.take_succ_cons, List.take_zero]
              repeat (go_big_quiet_step (fail))
              refine wpQuiet_nil ?_
              rintro _ ⟨nq3, rfl⟩
              go_simp
              obtain ⟨w8, hw8⟩ : ∃ x, x = (w7.drewN nq3).setCell ⟨gg, p, none⟩ (.int .i64 (gv + a.loads)) := ⟨_, rfl⟩
              rw [← hw8]
              have hX8 : Hid (RX s B w A c pl dry a { s with last := s.last.set p s.year, given := s.given.set p (gv + a.loads) } w8) := by rw [hw8]; exact (hX7.out.later (below_drewN_ w7 nq3)).givenTo (i := p) hgg'.out (gv + a.loads)
              have hx8 : w8.heap[bx]? = some (.cells (plotCells P) 88 (0, 0)) := by
                rw [hw8]
                refine (Below.heap_setCell _ _ _ _ ?_).trans hx7.out
                have := (h.givenLt (k := gg) (by rw [hgg'.out]; rfl)).2
                have := hX1.out.size
                show bx ≠ gg
                rw [hbx.out]; omega
              have hx8l := (Array.getElem?_eq_some_iff.1 hx8).1
              clear k0 k1 k2 k3 k4 k5 c0 c1 c2 c3 c4 c5 c6 c7 c8 g0 gf
              replace hw8 := Lib.hid hw8
              obtain ⟨k0, k1, k2, k3, k4, k5⟩ := six_cells hX8.out.store
              obtain ⟨c0, c1, c2, c3, c4, c5, c6, c7, c8⟩ := nine_cells2 hX8.out.chore
              obtain ⟨m0, m1, m2, m3, m4, m5, m6, m7, m8⟩ := nine_cells2 hx8
              rw [hp.out] at c1
              have hz8 := hX8.out.size
              replace hx8 := Lib.hid hx8
              obtain ⟨H', hH'⟩ : ∃ H', H' = (⟨a.name, P.crop, 1, [⟨p, a.loads⟩], 0, P.wet, some ⟨w8.heap.size, 0, none⟩, 1⟩ : Heap) := ⟨_, rfl⟩
              obtain ⟨wA, hwA⟩ : ∃ x, x = (w8.alloc (.cells #[.int .i64 p, .int .i64 a.loads] 91)).alloc (.cells #[.string a.name, .int .i64 P.crop, .int .i64 1, .slice (some ⟨w8.heap.size, 0, none⟩) 1 1, .int .i64 0, .int .i64 P.wet.lo, .int .i64 P.wet.hi] 77) := ⟨_, rfl⟩
              have hbA : Below w8.heap.size w8 wA := by rw [hwA]; exact ((Below.refl _ w8).alloc (Nat.le_refl _) _).alloc (by simp) _
              have hXA := Lib.hid (hX8.out.later hbA)
              have hnew : Hid (∀ q u, (encHeap H')[q]? = some u → wA.cell? ((⟨w8.heap.size + 1, 0, none⟩ : Addr).add q) = some u) := fun q u hu => by
                rw [lit_add]
                have e : wA.heap[w8.heap.size + 1]? = some (.cells (hcells H') 77 (0, 0)) := by rw [hwA, hH']; exact heap_new _ _ _ (by simp)
                simp only [World.cell?, e]
                simpa [encHeap] using hu
              have hone : Hid (∀ u ∈ encHeap H', u.oneCell' = true) := fun u hu => heaps_one [H'] u (by simpa using hu)
              have hm63 : Hid (s.heaps.length + 1 ≤ maxLen) := by unfold Hid maxLen; omega
              have hmby : Hid ((s.heaps.length + 1) * 80 ≤ 140737488355328) := by unfold Hid; omega
              have hbase : Hid (B ≤ wA.heap.size) := hXA.out.bLe
              have hrd : Hid (RdParts wA (some ⟨w8.heap.size, 0, none⟩) [⟨p, a.loads⟩]) := by
                have e : wA.heap[w8.heap.size]? = some (.cells #[.int .i64 p, .int .i64 a.loads] 91 (0, 0)) := by rw [hwA]; exact heap_old _ _ _ _ (heap_new _ _ _ rfl)
                refine ⟨by simp, fun i x hx => ⟨_, rfl, fun j u hu => ?_⟩⟩
                have hi : i = 0 := by cases i with | zero => rfl | succ i => simp at hx
                subst hi
                simp at hx
                subst hx
                rw [lit_add, Nat.zero_mul, Nat.zero_add]
                simp only [World.cell?, e]
                simpa [encPortion] using hu
              have hpe : Hid (RdParts wA H'.pa H'.parts ∧ H'.name.size ≤ 140737488351232) := by unfold Hid; rw [hH']; exact ⟨hrd.out, ho1⟩
              have hpk : Hid (∀ k, H'.parts ≠ [] → blk H'.pa = some k → k = w8.heap.size) := fun k _ e => by rw [hH'] at e; simpa [blk] using e.symm
              replace hH' := Lib.hid hH'
              replace hbA := Lib.hid hbA
              have hnews : Hid (encHeap H' = [.string a.name, .int .i64 P.crop, .int .i64 1, .slice (some ⟨w8.heap.size, 0, none⟩) 1 1, .int .i64 0, .int .i64 P.wet.lo, .int .i64 P.wet.hi]) := by unfold Hid; rw [hH'.out]; rfl
              go_upto_region 17 with (at_builtin; rw [← hwA]; refine wp_app _ rfl _ _ 40 rfl B 77 7 80 Try.underlying40 info77 rfl (by decide) _ s.heaps.length (s.heaps.flatMap encHeap) rfl hXA.out.rows.heaps ⟨w8.heap.size + 1, 0, none⟩ 1 1 (encHeap H') rfl rfl hnew.out hone.out hm63.out hmby.out hbase.out ?_; intro v' w9 hown hgrow hnear; obtain ⟨A', c', rfl, hX9, z3, y3⟩ := hXA.out.push hpe.out (fun k h1 h2 => hX8.out.rows.newOff (by have := hpk.out k h1 h2; omega)) (fun k h1 h2 => .inr (by have := hpk.out k h1 h2; omega)) hown hgrow hnear (by show s.heaps.length + 1 ≤ 1000; omega); clear hown hgrow hnear k0 k1 k2 k3 k4 k5; replace hX9 := Lib.hid hX9)
              obtain ⟨w10, hw10⟩ : ∃ x, x = w9.setCell ⟨w.heap.size + 1, 3, none⟩ (.slice A' (s.heaps.length + 1) c') := ⟨_, rfl⟩
              rw [← hw10]
              have hX10 : Hid (RX s B w A c pl dry a { s with last := s.last.set p s.year, given := s.given.set p (gv + a.loads), heaps := s.heaps ++ [H'], ha := A', hc := c' } w10) := by rw [hw10]; exact hX9.out
              replace hw10 := Lib.hid hw10
              obtain ⟨t10, ht10⟩ : ∃ t, t = ({ s with last := s.last.set p s.year, given := s.given.set p (gv + a.loads), heaps := s.heaps ++ [H'], ha := A', hc := c' } : Store) := ⟨_, rfl⟩
              rw [← ht10] at hX10
              replace ht10 := Lib.hid ht10
              clear z3 y3 hX9
              obtain ⟨k0, k1, k2, k3, k4, k5⟩ := six_cells hX10.out.store
              obtain ⟨d0, d1, d2, d3, d4, d5⟩ := cells6 hX10.out.out
              have f0 := hfz.out _ _ hX10.out 0
              have f1 := hfz.out _ _ hX10.out 1
              have f2 := hfz.out _ _ hX10.out 2
              have f3 := hfz.out _ _ hX10.out 3
              have f4 := hfz.out _ _ hX10.out 4
              have f5 := hfz.out _ _ hX10.out 5
              go_wp2_with fail
              rw [hr.out]
              refine hX10.out.fin (r := (0, _)) (fun _ => ?_) Try.results109 rfl rfl
              rw [ht10.out]
              refine ⟨rfl, rfl, rfl, ?_, rfl, rfl⟩
              show (s.heaps ++ [H']).map bareH = (s.heaps ++ [_]).map bareH
              rw [hH'.out, List.map_append, List.map_append]
              rfl
end Go.Proofs.Ytpgkhlpepckfgaa
end
section
namespace Go.Proofs.Ytpgkhlpepckfgaa
open Go.RowKit Go.Lib

set_option maxHeartbeats 4000000 in
set_option maxRecDepth 100000 in
theorem done_cut (B : Nat) (A : Option Addr) (pl : List Plot) (c : Nat) (dry : Int) (s : Store) (a : Chore) (w : World) (h : Rows B none s w) (hB : B ≤ w.heap.size) (hk : a.kind = 2) (hP : RdPlots w A pl) (hG : DoG pl dry s) (ho1 : a.name.size ≤ 140737488351232) :
    Calls Try.prog 78 #[.agg #[.slice A pl.length c, .int .i64 dry], storeVal s, choreVal a] w (RefOut B s (mowP pl s a) w) := by
  have hbw : Below w.heap.size w (RXw w A c pl dry a s) := ((((Below.refl _ w).alloc (Nat.le_refl _) _).alloc (by simp) _).alloc (by simp; omega) _).alloc (by simp; omega) _
  have hq1 : (a.kind == 1) = false := by rw [hk]; rfl
  have hq2 : (a.kind == 2) = true := by rw [hk]; rfl
  have hq3 : (a.kind == 3) = false := by rw [hk]; rfl
  have hq4 : (a.kind == 4) = false := by rw [hk]; rfl
  have hq5 : (a.kind == 5) = false := by rw [hk]; rfl
  have hq6 : (a.kind == 6) = false := by rw [hk]; rfl
  have hq7 : (a.kind == 7) = false := by rw [hk]; rfl
  have hq8 : (a.kind == 8) = false := by rw [hk]; rfl
  replace hk := Lib.hid hk
  obtain ⟨W0, hW0⟩ : ∃ W0, W0 = RXw w A c pl dry a s := ⟨_, rfl⟩
  have hX0 : Hid (RX s B w A c pl dry a s W0) := by rw [hW0]; exact RX.make h hB
  unfold RXw at hW0
  have hat : Hid (Calls Try.prog 70 #[storeVal s, .string a.name] W0 fun e w' => e = .returned (.int .i64 (nameIdx a.name s.heaps)) ∧ Below W0.heap.size W0 w') := at_any s a.name W0 hX0.out.rows.store
  have hrg := nameIdx_range a.name s.heaps
  obtain ⟨i, hi⟩ : ∃ i, i = nameIdx a.name s.heaps := ⟨_, rfl⟩
  rw [← hi] at hat hrg
  replace hi := Lib.hid hi
  have hfz : Hid (∀ W t, RX s B w A c pl dry a t W → ∀ j, W.frozen? ⟨w.heap.size + 1 + 1 + 1, j, none⟩ = false) := fun W t h j => frozen_of_row W _ j _ _ h.out
  go_enter Try.func78, Try.ntmps78
  go_upto_region 2 with fail
  rw [← hW0]
  replace hW0 := Lib.hid hW0
  go_at_call 70
  (with_reducible refine hat.out.mono ?_)
  rintro e w1 ⟨rfl, hb1⟩
  have hX1 := Lib.hid (hX0.out.later hb1)
  have hb01 := Lib.hid hb1
  clear hX0 hat hb1
  have hmo : Hid (Calls Try.prog 109 #[.agg #[.slice A pl.length c, .int .i64 dry], storeVal s, choreVal a] w1 (RefOut B s (mowP pl s a) w1)) := mown_any B A pl c dry s a w1 (hX1.out.rows.loose (Nat.le_refl _)) hX1.out.bLe (hP.below (hbw.trans ((hW0.out ▸ hb01.out).mono hbw.size))) hG ho1
  obtain ⟨k0, k1, k2, k3, k4, k5⟩ := six_cells hX1.out.store
  obtain ⟨c0, c1, c2, c3, c4, c5, c6, c7, c8⟩ := nine_cells2 hX1.out.chore
  obtain ⟨p0, p1⟩ := cells2 hX1.out.farm
  obtain ⟨d0, d1, d2, d3, d4, d5⟩ := cells6 hX1.out.out
  have f0 := hfz.out _ _ hX1.out 0
  have f1 := hfz.out _ _ hX1.out 1
  have f2 := hfz.out _ _ hX1.out 2
  have f3 := hfz.out _ _ hX1.out 3
  have f4 := hfz.out _ _ hX1.out 4
  have f5 := hfz.out _ _ hX1.out 5
  clear d0 d1 d2 d3 d4 d5 f0 f1 f2 f3 f4 f5
  go_wp2_with fail
  go_at_call 109
  (with_reducible refine hmo.out.mono ?_)
  rintro e w9 ⟨t, rfl, hb9, hr9, hk9⟩
  have hz9 := hX1.out.size
  have ho9 : w9.heap[w.heap.size + 1 + 1 + 1]? = some (.cells emptyC 43 (0, 0)) := (hk9 _ (by omega) (fun ho => by have := hX1.out.far _ (RX.ownLies ho); omega)).trans hX1.out.out
  obtain ⟨d0, d1, d2, d3, d4, d5⟩ := cells6 ho9
  have hfz9 : ∀ j, w9.frozen? ⟨w.heap.size + 1 + 1 + 1, j, none⟩ = false := fun j => frozen_of_row w9 _ j _ _ ho9
  have f0 := hfz9 0
  have f1 := hfz9 1
  have f2 := hfz9 2
  have f3 := hfz9 3
  have f4 := hfz9 4
  have f5 := hfz9 5
  clear hfz9
  replace ho9 := Lib.hid ho9
  replace hb9 := Lib.hid hb9
  replace hr9 := Lib.hid hr9
  replace hk9 := Lib.hid hk9
  go_wp2_with fail
  refine bodyPost_ret (ret_store Try.results78 rfl rfl (set6 _ _ _ _ _ _ ho9.out)) rfl ?_
  have hz := hb9.out.size
  have hB' := hX1.out.hB
  refine ⟨t, rfl, set6_below _ _ _ _ _ _ (hX1.out.below.trans hb9.out) (by omega), fun e => ?_, fun q hq hn => (set6_other _ _ _ _ _ _ (by omega)).trans ((hk9.out q (by omega) hn).trans (hX1.out.kept q hq hn))⟩
  obtain ⟨q1, q2, q3⟩ := hr9.out e
  refine ⟨q1, q2.put6 (by omega) (fun q hq => ?_) _ _ _ _ _ _, fun q hq => ?_⟩
  · rcases q3 q hq with h1 | h1
    · have := hX1.out.far q h1; omega
    · omega
  · rcases q3 q hq with h1 | h1
    · exact .inl h1
    · exact .inr (by omega)
end Go.Proofs.Ytpgkhlpepckfgaa
end
section
namespace Go.Proofs.Ytpgkhlpepckfgaa
open Go.RowKit Go.Lib
section
variable {B : Nat} {w : World} {A : Option Addr} {c : Nat} {pl : List Plot} {dry : Int} {a : Chore} {s0 s t : Store} {W W' : World}
theorem RX.wasteTo (h : RX s0 B w A c pl dry a t W) {A1 : Option Addr} {c1 : Nat} {l : List Portion} (hr : RdParts W A1 l) (ho : ∀ q, l ≠ [] → blk A1 = some q → Off t (some (w.heap.size + 1)) q ∧ w.heap.size + 4 ≤ q) :
    RX s0 B w A c pl dry a { t with waste := l, wa := A1, wc := c1 } (W.setCell ⟨w.heap.size + 1, 5, none⟩ (.slice A1 l.length c1)) :=
  h.put 5 _ rfl (h.rows.wasteTo c1 hr fun q h1 h2 => (ho q h1 h2).1) (fun q hq => by
    rcases hq with e | e | e | e | ⟨h1, h2⟩ | e
    · exact h.frm q (.inl e)
    · exact h.frm q (.inr (.inl e))
    · exact h.frm q (.inr (.inr (.inl e)))
    · exact h.frm q (.inr (.inr (.inr (.inl e))))
    · exact .inr (ho q h1 h2).2
    · exact h.frm q (.inr (.inr (.inr (.inr (.inr e)))))) fun q hq => hq
theorem RX.usedTo (h : RX s0 B w A c pl dry a t W) {A1 : Option Addr} {c1 : Nat} {l : List Portion} (hr : RdParts W A1 l) (ho : ∀ q, l ≠ [] → blk A1 = some q → Off t (some (w.heap.size + 1)) q ∧ w.heap.size + 4 ≤ q) :
    RX s0 B w A c pl dry a { t with used := l, ua := A1, uc := c1 } (W.setCell ⟨w.heap.size + 1, 4, none⟩ (.slice A1 l.length c1)) :=
  h.put 4 _ rfl (h.rows.usedTo c1 hr fun q h1 h2 => (ho q h1 h2).1) (fun q hq => by
    rcases hq with e | e | e | ⟨h1, h2⟩ | e | e
    · exact h.frm q (.inl e)
    · exact h.frm q (.inr (.inl e))
    · exact h.frm q (.inr (.inr (.inl e)))
    · exact .inr (ho q h1 h2).2
    · exact h.frm q (.inr (.inr (.inr (.inr (.inl e)))))
    · exact h.frm q (.inr (.inr (.inr (.inr (.inr e)))))) fun q hq => hq
end
end Go.Proofs.Ytpgkhlpepckfgaa
end
section
namespace Go.Proofs.Ytpgkhlpepckfgaa
open Go.RowKit Go.Lib

set_option maxHeartbeats 4000000 in
set_option maxRecDepth 100000 in
theorem done_comb (B : Nat) (A : Option Addr) (pl : List Plot) (c : Nat) (dry : Int) (s : Store) (a : Chore) (w : World) (h : Rows B none s w) (hB : B ≤ w.heap.size) (hk : a.kind = 4) (hw : Mild s.waste) (hm : MildH s.heaps) (hpos : ∀ x ∈ s.heaps, ∀ p ∈ x.parts, 0 < p.loads) :
    Calls Try.prog 78 #[.agg #[.slice A pl.length c, .int .i64 dry], storeVal s, choreVal a] w (RefOut B s (if nameIdx a.name s.heaps < 0 then (7, s) else combP dry s (nameIdx a.name s.heaps).toNat a) w) := by
  have hq1 : (a.kind == 1) = false := by rw [hk]; rfl
  have hq2 : (a.kind == 2) = false := by rw [hk]; rfl
  have hq3 : (a.kind == 3) = false := by rw [hk]; rfl
  have hq4 : (a.kind == 4) = true := by rw [hk]; rfl
  have hq5 : (a.kind == 5) = false := by rw [hk]; rfl
  have hq6 : (a.kind == 6) = false := by rw [hk]; rfl
  have hq7 : (a.kind == 7) = false := by rw [hk]; rfl
  have hq8 : (a.kind == 8) = false := by rw [hk]; rfl
  replace hk := Lib.hid hk
  obtain ⟨W0, hW0⟩ : ∃ W0, W0 = RXw w A c pl dry a s := ⟨_, rfl⟩
  have hX0 : Hid (RX s B w A c pl dry a s W0) := by rw [hW0]; exact RX.make h hB
  unfold RXw at hW0
  have hat : Hid (Calls Try.prog 70 #[storeVal s, .string a.name] W0 fun e w' => e = .returned (.int .i64 (nameIdx a.name s.heaps)) ∧ Below W0.heap.size W0 w') := at_any s a.name W0 hX0.out.rows.store
  have hrg := nameIdx_range a.name s.heaps
  obtain ⟨i, hi⟩ : ∃ i, i = nameIdx a.name s.heaps := ⟨_, rfl⟩
  rw [← hi] at hat hrg ⊢
  replace hi := Lib.hid hi
  have hfz : Hid (∀ W t, RX s B w A c pl dry a t W → ∀ j, W.frozen? ⟨w.heap.size + 1 + 1 + 1, j, none⟩ = false) := fun W t h j => frozen_of_row W _ j _ _ h.out
  by_cases hneg : i < 0
  · rw [if_pos hneg]
    go_enter Try.func78, Try.ntmps78
    go_upto_region 2 with fail
    rw [← hW0]
    replace hW0 := Lib.hid hW0
    go_at_call 70
    (with_reducible refine hat.out.mono ?_)
    rintro e w1 ⟨rfl, hb1⟩
    have hX1 := Lib.hid (hX0.out.later hb1)
    have hb01 := Lib.hid hb1
    clear hX0 hat hb1
    obtain ⟨k0, k1, k2, k3, k4, k5⟩ := six_cells hX1.out.store
    obtain ⟨c0, c1, c2, c3, c4, c5, c6, c7, c8⟩ := nine_cells2 hX1.out.chore
    obtain ⟨p0, p1⟩ := cells2 hX1.out.farm
    obtain ⟨d0, d1, d2, d3, d4, d5⟩ := cells6 hX1.out.out
    have f0 := hfz.out _ _ hX1.out 0
    have f1 := hfz.out _ _ hX1.out 1
    have f2 := hfz.out _ _ hX1.out 2
    have f3 := hfz.out _ _ hX1.out 3
    have f4 := hfz.out _ _ hX1.out 4
    have f5 := hfz.out _ _ hX1.out 5
    go_wp2_with fail
    exact hX1.out.fin (r := (7, s)) (fun e => by cases e) Try.results78 rfl rfl
  rw [if_neg hneg]
  obtain ⟨k, hkk⟩ : ∃ k : Nat, i = (k : Int) := ⟨i.toNat, by omega⟩
  subst hkk
  rw [Int.toNat_natCast]
  have hkl : k < s.heaps.length := by omega
  clear hrg hneg
  go_enter Try.func78, Try.ntmps78
  go_upto_region 2 with fail
  rw [← hW0]
  replace hW0 := Lib.hid hW0
  go_at_call 70
  (with_reducible refine hat.out.mono ?_)
  rintro e w1 ⟨rfl, hb1⟩
  have hX1 := Lib.hid (hX0.out.later hb1)
  have hb01 := Lib.hid hb1
  clear hX0 hat hb1
  obtain ⟨k0, k1, k2, k3, k4, k5⟩ := six_cells hX1.out.store
  obtain ⟨c0, c1, c2, c3, c4, c5, c6, c7, c8⟩ := nine_cells2 hX1.out.chore
  obtain ⟨p0, p1⟩ := cells2 hX1.out.farm
  obtain ⟨d0, d1, d2, d3, d4, d5⟩ := cells6 hX1.out.out
  have f0 := hfz.out _ _ hX1.out 0
  have f1 := hfz.out _ _ hX1.out 1
  have f2 := hfz.out _ _ hX1.out 2
  have f3 := hfz.out _ _ hX1.out 3
  have f4 := hfz.out _ _ hX1.out 4
  have f5 := hfz.out _ _ hX1.out 5
  obtain ⟨G, hG⟩ : ∃ G, G = s.heaps[k] := ⟨_, rfl⟩
  obtain ⟨g, hg, hcG, hfG⟩ := hX1.out.rows.heapAt hkl
  rw [← hG] at hcG
  have hgd : Hid (s.heaps.getD k default = G) := by unfold Hid; rw [getD_lt _ hkl, hG]
  have hrG : RdParts w1 G.pa G.parts ∧ G.name.size ≤ 140737488351232 := hG ▸ hX1.out.rows.parts _ (List.getElem_mem hkl)
  have x0 : w1.cell? ⟨g, k * 7, none⟩ = some (.string G.name) := hcG 0 _ rfl
  have x1 : w1.cell? ⟨g, k * 7 + 1, none⟩ = some (.int .i64 G.crop) := hcG 1 _ rfl
  have x2 : w1.cell? ⟨g, k * 7 + 2, none⟩ = some (.int .i64 G.stage) := hcG 2 _ rfl
  have x3 : w1.cell? ⟨g, k * 7 + 3, none⟩ = some (.slice G.pa G.parts.length G.pc) := hcG 3 _ rfl
  have x4 : w1.cell? ⟨g, k * 7 + 4, none⟩ = some (.int .i64 G.per) := hcG 4 _ rfl
  have x5 : w1.cell? ⟨g, k * 7 + 5, none⟩ = some (.int .i64 G.wet.lo) := hcG 5 _ rfl
  have x6 : w1.cell? ⟨g, k * 7 + 6, none⟩ = some (.int .i64 G.wet.hi) := hcG 6 _ rfl
  rw [hg] at k3
  replace hg := Lib.hid hg
  replace hcG := Lib.hid hcG
  replace hfG := Lib.hid hfG
  replace hG := Lib.hid hG
  go_upto_region 13 with fail
  obtain ⟨w2, hw2⟩ : ∃ x, x = w1.alloc (.cells (hcells G) 77) := ⟨_, rfl⟩
  obtain ⟨bh, hbh⟩ : ∃ b, b = w1.heap.size := ⟨_, rfl⟩
  rw [← hw2, ← hbh]
  have hb2 : Below w1.heap.size w1 w2 := by rw [hw2]; exact (Below.refl _ w1).alloc (Nat.le_refl _) _
  have hx2 : Hid (w2.heap[bh]? = some (.cells (hcells G) 77 (0, 0))) := by unfold Hid; rw [hw2, hbh]; exact heap_new _ _ _ rfl
  have hX2 := Lib.hid (hX1.out.later hb2)
  have hrG2 := Lib.hid (hrG.1.below hb2)
  have hnG := Lib.hid hrG.2
  clear x0 x1 x2 x3 x4 x5 x6 k0 k1 k2 k3 k4 k5 c0 c1 c2 c3 c4 c5 c6 c7 c8 p0 p1 d0 d1 d2 d3 d4 d5 f0 f1 f2 f3 f4 f5 hrG hb2
  replace hw2 := Lib.hid hw2
  replace hbh := Lib.hid hbh
  obtain ⟨k0, k1, k2, k3, k4, k5⟩ := six_cells hX2.out.store
  obtain ⟨c0, c1, c2, c3, c4, c5, c6, c7, c8⟩ := nine_cells2 hX2.out.chore
  obtain ⟨p0, p1⟩ := cells2 hX2.out.farm
  obtain ⟨d0, d1, d2, d3, d4, d5⟩ := cells6 hX2.out.out
  have f0 := hfz.out _ _ hX2.out 0
  have f1 := hfz.out _ _ hX2.out 1
  have f2 := hfz.out _ _ hX2.out 2
  have f3 := hfz.out _ _ hX2.out 3
  have f4 := hfz.out _ _ hX2.out 4
  have f5 := hfz.out _ _ hX2.out 5
  obtain ⟨x0, x1, x2, x3, x4, x5, x6⟩ := seven_cells hx2.out
  have hmG : Mild G.parts := hG.out ▸ (hm.2 _ (List.getElem_mem hkl))
  have hpG : ∀ p ∈ G.parts, 0 < p.loads := hG.out ▸ hpos _ (List.getElem_mem hkl)
  by_cases t1 : G.stage = 1 ∧ G.wet.hi ≤ dry
  rotate_left
  · have hr : Hid (combP dry s k a = (8, s)) := by unfold Hid combP; rw [hgd.out, if_pos t1]
    have t1' : (G.stage != 1) = true ∨ ((G.stage != 1) = false ∧ decide (dry < G.wet.hi) = true) := by
      by_cases e1 : G.stage = 1
      · exact .inr ⟨by simpa using e1, decide_eq_true (by have : ¬ G.wet.hi ≤ dry := fun h => t1 ⟨e1, h⟩; omega)⟩
      · exact .inl (by simpa using e1)
    replace t1 := Lib.hid t1
    rcases t1' with e1 | ⟨e1, e2⟩
    all_goals
      go_wp2_with fail
      rw [hr.out]
      exact hX2.out.fin (r := (8, s)) (fun e => by cases e) Try.results78 rfl rfl
  have t1a : (G.stage != 1) = false := by simpa using t1.1
  have t1b : decide (dry < G.wet.hi) = false := decide_eq_false (by have := t1.2; omega)
  replace t1 := Lib.hid t1
  obtain ⟨sm1, sm2⟩ := hmG.sum
  obtain ⟨sm, hsm⟩ : ∃ sm, sm = sumL G.parts := ⟨_, rfl⟩
  rw [← hsm] at sm1 sm2
  have w1' : IntKind.i64.wrap (sm - 1) = sm - 1 := IntWalk.i64_in _ (by omega)
  have hq71 : Hid (∀ n, Calls Try.prog 71 #[.slice G.pa G.parts.length G.pc] (w2.drewN n) fun e w' => e = .returned (.int .i64 sm) ∧ w' = w2.drewN n) := fun n => (loads_any _ _ _ _ (hrG2.out.below (below_drewN_ w2 n)) hmG).mono fun _ _ ⟨h1, h2⟩ => ⟨by rw [h1, hsm], h2.symm⟩
  replace hsm := Lib.hid hsm
  obtain ⟨ok, hok⟩ : ∃ b, b = inB a.loads 0 (sm - 1) := ⟨_, rfl⟩
  have hq49 : Hid (∀ n, Calls Try.prog 49 #[.int .i64 a.loads, .int .i64 0, .int .i64 (sm - 1)] (w2.drewN n) fun e w' => e = .returned (.bool ok) ∧ w' = w2.drewN n) := fun n => (rin_any _ _ _ _).mono fun _ _ ⟨h1, h2⟩ => ⟨by rw [h1, hok], h2.symm⟩
  replace hok := Lib.hid hok
  cases ok with
  | false =>
    have hr : Hid (combP dry s k a = (1, s)) := by unfold Hid combP; rw [hgd.out, if_neg (fun h => h t1.out), ← hsm.out, if_pos hok.out.symm]
    go_wp2_with fail
    go_big_quiet (first | (go_at_call 71; exact Calls.quiet_of_same (hq71.out _)) | (go_at_call 49; exact Calls.quiet_of_same (hq49.out _)))
    obtain ⟨w3, hw3⟩ : ∃ x, x = w2.drewN nq := ⟨_, rfl⟩
    rw [← hw3]
    have hX3 := Lib.hid (hX2.out.later (show Below w2.heap.size w2 w3 by rw [hw3]; exact below_drewN_ _ _))
    clear x0 x1 x2 x3 x4 x5 x6 k0 k1 k2 k3 k4 k5 c0 c1 c2 c3 c4 c5 c6 c7 c8 p0 p1 d0 d1 d2 d3 d4 d5 f0 f1 f2 f3 f4 f5
    replace hw3 := Lib.hid hw3
    obtain ⟨k0, k1, k2, k3, k4, k5⟩ := six_cells hX3.out.store
    obtain ⟨c0, c1, c2, c3, c4, c5, c6, c7, c8⟩ := nine_cells2 hX3.out.chore
    obtain ⟨p0, p1⟩ := cells2 hX3.out.farm
    obtain ⟨d0, d1, d2, d3, d4, d5⟩ := cells6 hX3.out.out
    have f0 := hfz.out _ _ hX3.out 0
    have f1 := hfz.out _ _ hX3.out 1
    have f2 := hfz.out _ _ hX3.out 2
    have f3 := hfz.out _ _ hX3.out 3
    have f4 := hfz.out _ _ hX3.out 4
    have f5 := hfz.out _ _ hX3.out 5
    go_wp2_with fail
    rw [hr.out]
    exact hX3.out.fin (r := (1, s)) (fun e => by cases e) Try.results78 rfl rfl
  | true =>
  have hin := hok.out.symm
  simp only [inB, Bool.and_eq_true, decide_eq_true_eq] at hin
  obtain ⟨N, hN⟩ : ∃ N, N = a.loads := ⟨_, rfl⟩
  obtain ⟨CF, hCF⟩ : ∃ x, x = cutF G.parts N := ⟨_, rfl⟩
  obtain ⟨CR, hCR⟩ : ∃ x, x = cutR G.parts N := ⟨_, rfl⟩
  have hr : Hid (combP dry s k a = (0, { s with waste := behindP s.waste CF, heaps := s.heaps.set k (stageH (setPartsH G CR) 2) })) := by unfold Hid combP; rw [hgd.out, if_neg (fun h => h t1.out), ← hsm.out, if_neg (by rw [← hok.out]; decide), ← hN, ← hCF, ← hCR]
  have hmc : Mild CF := hCF ▸ hmG.cutF N
  have hpc : ∀ p ∈ CF, 0 < p.loads := hCF ▸ fun p hp => ((cutF_mild G.parts N hmG.2).2 p hp).1
  rw [← hN] at hin
  have hNh := Lib.hid hN
  replace hCF := Lib.hid hCF
  replace hCR := Lib.hid hCR
  have hinh := Lib.hid hin
  clear hin hN
  go_wp2_with fail
  go_big_quiet (first | (go_at_call 71; exact Calls.quiet_of_same (hq71.out _)) | (go_at_call 49; exact Calls.quiet_of_same (hq49.out _)))
  obtain ⟨w3, hw3⟩ : ∃ x, x = w2.drewN nq := ⟨_, rfl⟩
  rw [← hw3]
  have hb3 : Below w2.heap.size w2 w3 := by rw [hw3]; exact below_drewN_ _ _
  have hX3 := Lib.hid (hX2.out.later hb3)
  have hx3 : Hid (w3.heap[bh]? = some (.cells (hcells G) 77 (0, 0))) := (hb3.block _ (Array.getElem?_eq_some_iff.1 hx2.out).1).trans hx2.out
  have hrG3 := Lib.hid (hrG2.out.below hb3)
  clear x0 x1 x2 x3 x4 x5 x6 k0 k1 k2 k3 k4 k5 c0 c1 c2 c3 c4 c5 c6 c7 c8 p0 p1 d0 d1 d2 d3 d4 d5 f0 f1 f2 f3 f4 f5 hb3
  replace hw3 := Lib.hid hw3
  obtain ⟨k0, k1, k2, k3, k4, k5⟩ := six_cells hX3.out.store
  obtain ⟨c0, c1, c2, c3, c4, c5, c6, c7, c8⟩ := nine_cells2 hX3.out.chore
  obtain ⟨p0, p1⟩ := cells2 hX3.out.farm
  obtain ⟨d0, d1, d2, d3, d4, d5⟩ := cells6 hX3.out.out
  have f0 := hfz.out _ _ hX3.out 0
  have f1 := hfz.out _ _ hX3.out 1
  have f2 := hfz.out _ _ hX3.out 2
  have f3 := hfz.out _ _ hX3.out 3
  have f4 := hfz.out _ _ hX3.out 4
  have f5 := hfz.out _ _ hX3.out 5
  obtain ⟨x0, x1, x2, x3, x4, x5, x6⟩ := seven_cells hx3.out
  have hcut := rcut_fresh G.pa G.pc G.parts N w3 hrG3.out hmG ⟨hinh.out.1, by have := hinh.out.2; omega⟩
  unfold CutOutF at hcut
  rw [← hCF.out, ← hCR.out, hNh.out] at hcut
  replace hcut := Lib.hid hcut
  go_wp2_with fail
  go_at_call 72
  (with_reducible refine hcut.out.mono ?_)
  rintro e w4 ⟨A1, ec1, A2, ec2, rfl, r1, r2, hb4, n1, n2⟩
  have hX4 := Lib.hid (hX3.out.later hb4)
  have hz3 := hX3.out.size
  have hbe : Hid (Calls Try.prog 111 #[.slice s.wa s.waste.length s.wc, .slice A1 CF.length ec1] w4 (BehOut (behindP s.waste CF) w4)) := joined_any _ _ _ _ _ _ _ hX4.out.rows.waste r1 hw hmc hpc
  have hlenB : Hid ((behindP s.waste CF).length ≤ 140737488351232) := behind_len hw hmc
  obtain ⟨JL, hJL⟩ : ∃ JL, JL = behindP s.waste CF := ⟨_, rfl⟩
  rw [← hJL] at hbe hlenB hr
  replace hJL := Lib.hid hJL
  clear x0 x1 x2 x3 x4 x5 x6 k0 k1 k2 k3 k4 k5 c0 c1 c2 c3 c4 c5 c6 c7 c8 p0 p1 d0 d1 d2 d3 d4 d5 f0 f1 f2 f3 f4 f5 hcut
  replace r1 := Lib.hid r1
  replace r2 := Lib.hid r2
  replace n1 := Lib.hid n1
  replace n2 := Lib.hid n2
  replace hb4 := Lib.hid hb4
  replace hmc := Lib.hid hmc
  replace hpc := Lib.hid hpc
  obtain ⟨k0, k1, k2, k3, k4, k5⟩ := six_cells hX4.out.store
  go_wp2_with fail
  go_at_call 111
  (with_reducible refine hbe.out.mono ?_)
  rintro e w5 ⟨A3, ec3, rfl, hr5, hb5⟩
  have hX5 := Lib.hid (hX4.out.later hb5)
  have hz4 := hX4.out.size
  have hn5 : Hid (∀ q, JL ≠ [] → blk A3 = some q → Off s (some (w.heap.size + 1)) q ∧ w.heap.size + 4 ≤ q) := fun q _ e => by
    have h1 := (hr5.lt q (by rw [ownBlock_slice]; exact e)).1
    exact ⟨hX4.out.rows.newOff h1, by omega⟩
  have r25 := Lib.hid (r2.out.below hb5)
  clear k0 k1 k2 k3 k4 k5
  replace hr5 := Lib.hid hr5
  replace hb5 := Lib.hid hb5
  obtain ⟨k0, k1, k2, k3, k4, k5⟩ := six_cells hX5.out.store
  have s5 : w5.frozen? ⟨w.heap.size + 1, 5, none⟩ = false := frozen_of_row w5 _ 5 _ _ hX5.out.store
  go_upto_region 27 with fail
  obtain ⟨w6, hw6⟩ : ∃ x, x = w5.setCell ⟨w.heap.size + 1, 5, none⟩ (.slice A3 JL.length ec3) := ⟨_, rfl⟩
  rw [← hw6]
  have hX6 : Hid (RX s B w A c pl dry a { s with waste := JL, wa := A3, wc := ec3 } w6) := by rw [hw6]; exact hX5.out.wasteTo (hr5.out.rd hlenB.out) hn5.out
  have r26 : Hid (RdParts w6 A2 CR) := r25.out.keep fun q hl e => by
    rw [hw6]
    exact Below.heap_setCell _ _ _ _ (by have := n2.out q e; show q ≠ w.heap.size + 1; omega)
  replace hw6 := Lib.hid hw6
  clear k0 k1 k2 k3 k4 k5 s5
  have hXq := Lib.hid (hX6.out.later (below_drewN_ w6 1))
  have r2q := Lib.hid (r26.out.below (below_drewN_ w6 1))
  obtain ⟨wq, hwq⟩ : ∃ x, x = w6.drew := ⟨_, rfl⟩
  have hX7 : Hid (RX s B w A c pl dry a { s with waste := JL, wa := A3, wc := ec3 } wq) := by rw [hwq]; exact hXq.out
  have r27 : Hid (RdParts wq A2 CR) := by rw [hwq]; exact r2q.out
  clear hXq r2q
  have k3 := (six_cells hX7.out.store).2.2.2.1
  rw [show ({ s with waste := JL, wa := A3, wc := ec3 } : Store).ha = s.ha from rfl, hg.out] at k3
  replace k3 := Lib.hid k3
  obtain ⟨g', hg', hc7, hf7⟩ := hX7.out.rows.heapAt (i := k) hkl
  rw [show ({ s with waste := JL, wa := A3, wc := ec3 } : Store).ha = s.ha from rfl, hg.out] at hg'
  cases hg'
  rw [show ({ s with waste := JL, wa := A3, wc := ec3 } : Store).heaps[k] = G from hG.out.symm] at hc7
  have hgN : g < w.heap.size := (h.heapsLt (k := g) (by rw [hg.out]; rfl)).2
  have hgne : g ≠ w.heap.size + 1 := by omega
  have z2 : wq.cell? ⟨g, k * 7 + 2, none⟩ = some (.int .i64 G.stage) := hc7 2 _ rfl
  have z3 : wq.cell? ⟨g, k * 7 + 3, none⟩ = some (.slice G.pa G.parts.length G.pc) := hc7 3 _ rfl
  have v2 := hf7 (k * 7 + 2)
  have v3 := hf7 (k * 7 + 3)
  replace hc7 := Lib.hid hc7
  replace hf7 := Lib.hid hf7
  refine wp_region_tree (fun W => W.cell? ⟨w.heap.size + 1, 3, none⟩ = some (.slice (some ⟨g, 0, none⟩) s.heaps.length s.hc)) (.pure 0 (.read 1 (.pure 2 (.pure 3 (.read 4 (.pure 5 (.pure 6 (.pure 7 (.pure 8 (.one 9 (.pure 10 (.pure 11 (.one 12 .done))))))))))))) [] (by kernel_rfl) (by kernel_rfl) (by rw [← hwq]; exact k3.out) ?_
  rw [← hwq]
  replace hwq := Lib.hid hwq
  repeat
    ((first | (refine wpTree_pure (v := ?_) rfl (by rfl) ?_ (fun _ _ _ h => h) ?_) | (refine wpTree_take (v := ?_) rfl (by rfl) ?_ (fun _ _ _ h => h) ?_))
     rotate_left
     (focus (intro w'; (try (intro hSw; have k3s := hSw; clear hSw)); (try simp only [List.getElem_toArray, List.getElem_cons_zero, List.getElem_cons_succ]); go_simp; try with_reducible rfl))
     simp only [List.getElem_toArray, List.getElem_cons_zero, List.getElem_cons_succ, Act.put, List.setIfInBounds_toArray, List.set_cons_zero, List.set_cons_succ])
  refine wpTree_do rfl (by rfl) ?_
  (try simp only [List.getElem_toArray, List.getElem_cons_zero, List.getElem_cons_succ])
  go_simp
  refine wpTree_pure (v := ?_) rfl (by rfl) ?_ (fun _ _ _ h => h) ?_
  rotate_left
  focus (intro w'; (try simp only [List.getElem_toArray, List.getElem_cons_zero, List.getElem_cons_succ]); go_simp; try with_reducible rfl)
  simp only [List.getElem_toArray, List.getElem_cons_zero, List.getElem_cons_succ, Act.put, List.setIfInBounds_toArray, List.set_cons_zero, List.set_cons_succ]
  refine wpTree_pure (v := ?_) rfl (by rfl) ?_ (fun _ _ _ h => h) ?_
  rotate_left
  focus (intro w'; (try simp only [List.getElem_toArray, List.getElem_cons_zero, List.getElem_cons_succ]); go_simp; try with_reducible rfl)
  simp only [List.getElem_toArray, List.getElem_cons_zero, List.getElem_cons_succ, Act.put, List.setIfInBounds_toArray, List.set_cons_zero, List.set_cons_succ]
  refine wpTree_do rfl (by rfl) ?_
  (try simp only [List.getElem_toArray, List.getElem_cons_zero, List.getElem_cons_succ])
  go_simp
  unfold wpTree
  obtain ⟨w8, hw8⟩ : ∃ x, x = (wq.setCell ⟨g, k * 7 + 3, none⟩ (.slice A2 CR.length ec2)).setCell ⟨g, k * 7 + 2, none⟩ (.int .i64 2) := ⟨_, rfl⟩
  rw [← hw8]
  obtain ⟨t8, ht8⟩ : ∃ t, t = ({ s with waste := JL, wa := A3, wc := ec3, heaps := s.heaps.set k { G with parts := CR, pa := A2, pc := ec2, stage := 2 } } : Store) := ⟨_, rfl⟩
  have hX8 : Hid (RX s B w A c pl dry a t8 w8) := by
    have hXa := hX7.out.heapTo (i := k) (j := 3) (u := .slice A2 CR.length ec2) (y := { G with parts := CR, pa := A2, pc := ec2 }) hg.out hkl (by decide) (by rw [show ({ s with waste := JL, wa := A3, wc := ec3 } : Store).heaps[k] = G from hG.out.symm]; rfl)
      ⟨⟨r27.out, hnG.out⟩, fun q h1 h2 => hX3.out.rows.newOff (n2.out q h2)⟩ (fun q h1 h2 => .inr (by have := n2.out q h2; omega))
    have hk5 : k < (s.heaps.set k { G with parts := CR, pa := A2, pc := ec2 }).length := by rw [List.length_set]; exact hkl
    have hge : (s.heaps.set k { G with parts := CR, pa := A2, pc := ec2 })[k]'hk5 = { G with parts := CR, pa := A2, pc := ec2 } := List.getElem_set_self _
    have hXb := hXa.heapTo (i := k) (j := 2) (u := .int .i64 2) (y := { G with parts := CR, pa := A2, pc := ec2, stage := 2 }) hg.out hk5 (by decide) (by rw [show ({ s with waste := JL, wa := A3, wc := ec3, heaps := s.heaps.set k { G with parts := CR, pa := A2, pc := ec2 } } : Store).heaps[k]'hk5 = _ from hge]; rfl)
      ⟨⟨r27.out.keep fun q hl e => Below.heap_setCell _ _ _ _ (by have := n2.out q e; show q ≠ g; omega), hnG.out⟩, fun q h1 h2 => hX3.out.rows.newOff (n2.out q h2)⟩ (fun q h1 h2 => .inr (by have := n2.out q h2; omega))
    rw [hw8, ht8]
    rw [List.set_set] at hXb
    exact hXb
  replace hw8 := Lib.hid hw8
  have hsame : Hid (SameC t8 { s with waste := JL, heaps := s.heaps.set k (stageH (setPartsH G CR) 2) }) := by
    unfold Hid; rw [ht8]
    exact (SameC.put (s := { s with waste := JL, wa := A3, wc := ec3 }) (t := { s with waste := JL }) ⟨rfl, rfl, rfl, rfl, rfl, rfl⟩ k _ _ rfl)
  replace ht8 := Lib.hid ht8
  clear z2 z3 v2 v3
  obtain ⟨k0, k1, k2, k3, k4, k5⟩ := six_cells hX8.out.store
  obtain ⟨c0, c1, c2, c3, c4, c5, c6, c7, c8⟩ := nine_cells2 hX8.out.chore
  obtain ⟨p0, p1⟩ := cells2 hX8.out.farm
  obtain ⟨d0, d1, d2, d3, d4, d5⟩ := cells6 hX8.out.out
  have f0 := hfz.out _ _ hX8.out 0
  have f1 := hfz.out _ _ hX8.out 1
  have f2 := hfz.out _ _ hX8.out 2
  have f3 := hfz.out _ _ hX8.out 3
  have f4 := hfz.out _ _ hX8.out 4
  have f5 := hfz.out _ _ hX8.out 5
  go_wp2_with fail
  rw [hr.out]
  exact hX8.out.fin (r := (0, _)) (fun _ => hsame.out) Try.results78 rfl rfl
end Go.Proofs.Ytpgkhlpepckfgaa
end
