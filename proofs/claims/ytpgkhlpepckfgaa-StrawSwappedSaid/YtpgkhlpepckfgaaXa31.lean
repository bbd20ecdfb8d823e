/-
  A field is cut: walked. What a chore of any kind does, and which fields it names: the contracts by the kind.
-/
import Derived.Test.YtpgkhlpepckfgaaXa17
import Derived.Test.YtpgkhlpepckfgaaXa25
import Derived.Test.YtpgkhlpepckfgaaXa26
import Derived.Test.YtpgkhlpepckfgaaXa29
import Derived.Test.YtpgkhlpepckfgaaXa30
set_option linter.all false
set_option linter.unusedVariables false
set_option linter.unusedSimpArgs false
section
namespace Go.Proofs.Ytpgkhlpepckfgaa
open Go.RowKit Go.Lib

abbrev plotCells (p : Plot) : Array Value := #[.string p.name, .int .i64 p.crop, .int .i64 p.size, .int .i64 p.yield.lo, .int .i64 p.yield.hi, .int .i64 p.rest, .int .i64 p.wet.lo, .int .i64 p.wet.hi, .int .i64 p.cost]
theorem sum_take_succ (l : List Int) (k : Nat) (h : k < l.length) : (l.take (k + 1)).sum = (l.take k).sum + l[k] := by
  rw [List.take_succ_eq_append_getElem h, List.sum_append]; simp
theorem sum_take_bounds {l : List Int} (h : ∀ x ∈ l, 0 ≤ x ∧ x ≤ 100000000000000) (hl : l.length ≤ 1000) : ∀ k, k ≤ l.length → 0 ≤ (l.take k).sum ∧ (l.take k).sum ≤ 100000000000000 * k
  | 0, _ => by simp
  | k + 1, hk => by
    have ih := sum_take_bounds h hl k (by omega)
    rw [sum_take_succ l k (by omega)]
    have := h l[k] (List.getElem_mem (by omega))
    omega

set_option maxHeartbeats 4000000 in
set_option maxRecDepth 100000 in
theorem mow_any (B b : Nat) (A : Option Addr) (pl : List Plot) (c : Nat) (dry : Int) (s : Store) (a : Chore) (W : World) (h : Own B b A pl.length c dry s W) (hP : RdPlots W A pl) (hpl : pl.length ≤ 12)
    (hq : ∀ q ∈ pl, (1 ≤ q.size ∧ q.size ≤ 100) ∧ (0 ≤ q.yield.lo ∧ q.yield.lo ≤ q.yield.hi ∧ q.yield.hi ≤ 1000) ∧ (1 ≤ q.rest ∧ q.rest ≤ 100)) (hy : 0 ≤ s.year ∧ s.year ≤ 100) (hl1 : s.last.length = pl.length) (hl2 : s.given.length = pl.length) (hgv : ∀ x ∈ s.given, 0 ≤ x ∧ x ≤ 100000000000000)
    (hlv : ∀ x ∈ s.last, -1000 ≤ x ∧ x ≤ 1000) (hh16 : s.heaps.length ≤ 16) (ho1 : a.name.size ≤ 140737488351232) :
    Calls Try.prog 93 #[ptr b, choreVal a] W (ShedOut B b A pl.length c dry (mowP pl s a) W) := by
  obtain ⟨W1, hW1⟩ : ∃ W1, W1 = W.alloc (.cells (choreCells a) 64) := ⟨_, rfl⟩
  have hb0 : Below W.heap.size W W1 := by rw [hW1]; exact (Below.refl _ W).alloc (Nat.le_refl _) _
  have hB := h.bLe
  have h1 := Lib.hid (h.later hb0)
  have hch : Hid (W1.heap[W.heap.size]? = some (.cells (choreCells a) 64 (0, 0))) := by unfold Hid; rw [hW1]; exact heap_new _ _ _ rfl
  have chl := (Array.getElem?_eq_some_iff.1 hch.out).1
  have hbl := h1.out.size
  have hP1 := Lib.hid (hP.below hb0)
  obtain ⟨_, ych1, ych2, ych3, _⟩ := nine_cells hch.out
  obtain ⟨e0, _, e2, e3, e4, e5, _, _⟩ := eight_cells h1.out.box
  replace hb0 := Lib.hid hb0
  replace hW1 := Lib.hid hW1
  have hwn : IntKind.i64.wrap ((pl.length : Int) - 1) = (pl.length : Int) - 1 := IntWalk.i64_in _ (by omega)
  have hq43 : Hid (∀ W', Calls Try.prog 43 #[.int .i64 a.plot, .int .i64 0, .int .i64 ((pl.length : Int) - 1)] W' fun e w' => e = .returned (.bool (inB a.plot 0 ((pl.length : Int) - 1))) ∧ w' = W') := fun W' => (in_any _ _ _ _).mono fun _ _ ⟨a, b⟩ => ⟨a, b.symm⟩
  have hb1 : Hid (Below B W W1) := hb0.out.mono hB
  cases t1 : inB a.plot 0 ((pl.length : Int) - 1) with
  | false =>
    have hr : Hid (mowP pl s a = (7, s)) := by unfold Hid mowP; rw [if_pos t1]
    rw [t1] at hq43
    go_enter Try.func93, Try.ntmps93
    go_wp2_with fail
    rw [← hW1.out]
    refine wp_region_last 10 rfl (by kernel_rfl) (by kernel_rfl) ?_
    simp only [List.take_succ_cons, List.take_zero]
    repeat (go_big_quiet_step (first | (go_at_call 43; exact Calls.quiet_of_same (hq43.out _))))
    refine wpQuiet_nil ?_
    rintro _ ⟨nq, rfl⟩
    go_simp
    (with_reducible refine (demand_no _ _).mono ?_)
    rintro e w8 ⟨rfl, rfl⟩
    rw [hr.out]
    exact ⟨rfl, hb1.out.trans (below_drewN_ _ _), .inl ⟨(by decide : (7 : Int) ≠ 0), rfl⟩⟩
  | true =>
    rw [t1] at hq43
    have hin := t1
    have hq1 := t1
    simp only [inB, Bool.and_eq_true, decide_eq_true_eq] at hin
    obtain ⟨p, hp⟩ : ∃ p : Nat, a.plot = (p : Int) := ⟨a.plot.toNat, by omega⟩
    have hpl2 : p < pl.length := by omega
    obtain ⟨P, hPe⟩ : ∃ P, P = pl[p] := ⟨_, rfl⟩
    have hpd : Hid (pl.getD a.plot.toNat default = P) := by unfold Hid; rw [hp, Int.toNat_natCast, getD_lt _ hpl2, hPe]
    have hp' := Lib.hid hp
    clear hp
    obtain ⟨⟨z1, z2⟩, ⟨z3, z4, z5⟩, z6, z7⟩ := hPe ▸ hq _ (List.getElem_mem hpl2)
    cases t2 : nameB a.name with
    | false =>
      have hr : Hid (mowP pl s a = (5, s)) := by unfold Hid mowP; rw [if_neg (by rw [t1]; decide), if_pos t2]
      have hf : Hid (∀ W', Calls Try.prog 121 #[ptr b, .string a.name] W' fun e w' => e = .panicked (errChain 5) ∧ Below W'.heap.size W' w') := fun W' => fresh_name b a.name W' (by omega) t2
      go_enter Try.func93, Try.ntmps93
      go_wp2_with fail
      rw [← hW1.out]
      go_big_quiet (first | (go_at_call 43; exact Calls.quiet_of_same (hq43.out _)) | (go_at_call 75; exact Calls.quiet_of_same (demand_ok _ _)))
      go_wp2_with (first | (go_at_call 121; (with_reducible refine (hf.out _).mono ?_); rintro e w3 ⟨rfl, hb3⟩))
      rw [hr.out]
      exact ⟨rfl, (hb1.out.trans (below_drewN_ W1 nq)).trans (hb3.mono h1.out.bLe), .inl ⟨(by decide : (5 : Int) ≠ 0), rfl⟩⟩
    | true =>
      by_cases t3 : 0 ≤ nameIdx a.name s.heaps
      · have hr : Hid (mowP pl s a = (6, s)) := by unfold Hid mowP; rw [if_neg (by rw [t1]; decide), if_neg (by rw [t2]; decide), if_pos t3]
        have hf : Hid (∀ W', Below W1.heap.size W1 W' → Calls Try.prog 121 #[ptr b, .string a.name] W' fun e w' => e = .panicked (errChain 6) ∧ Below W'.heap.size W' w') := fun W' hW' => fresh_twice b s.ha s.hc s.heaps a.name W' (eight_cells (h1.out.later hW').box).2.2.2.2.2.1 (h1.out.later hW').rows.heapsRd (by omega) t2 t3
        replace t3 := Lib.hid t3
        go_enter Try.func93, Try.ntmps93
        go_wp2_with fail
        rw [← hW1.out]
        go_big_quiet (first | (go_at_call 43; exact Calls.quiet_of_same (hq43.out _)) | (go_at_call 75; exact Calls.quiet_of_same (demand_ok _ _)))
        go_wp2_with (first | (go_at_call 121; (with_reducible refine (hf.out _ (below_drewN_ W1 nq)).mono ?_); rintro e w3 ⟨rfl, hb3⟩))
        rw [hr.out]
        exact ⟨rfl, (hb1.out.trans (below_drewN_ W1 nq)).trans (hb3.mono h1.out.bLe), .inl ⟨(by decide : (6 : Int) ≠ 0), rfl⟩⟩
      · have hf : Hid (∀ W', Below W1.heap.size W1 W' → Calls Try.prog 121 #[ptr b, .string a.name] W' fun e w' => e = .returned (.tuple #[]) ∧ Below W'.heap.size W' w') := fun W' hW' => fresh_ok b s.ha s.hc s.heaps a.name W' (eight_cells (h1.out.later hW').box).2.2.2.2.2.1 (h1.out.later hW').rows.heapsRd (by omega) t2 (by omega)
        replace t3 := Lib.hid t3
        go_enter Try.func93, Try.ntmps93
        go_wp2_with fail
        rw [← hW1.out]
        go_big_quiet (first | (go_at_call 43; exact Calls.quiet_of_same (hq43.out _)) | (go_at_call 75; exact Calls.quiet_of_same (demand_ok _ _)))
        go_wp2_with (first | (go_at_call 121; (with_reducible refine (hf.out _ (below_drewN_ W1 nq)).mono ?_); rintro e w3 ⟨rfl, hb3⟩))
        have hb13 : Below W1.heap.size W1 w3 := (below_drewN_ W1 nq).trans hb3
        have hO3 := Lib.hid (h1.out.later hb13)
        have hP3 := hP1.out.below hb13
        obtain ⟨ad, hA, c0, c1, c2, c3, c4, c5, c6, c7, c8⟩ := hP3.1.at9 hpl2 rfl
        rw [← hPe] at c0 c1 c2 c3 c4 c5 c6 c7 c8
        obtain ⟨f0, f1, f2, f3, f4, f5, _⟩ := eight_cells hO3.out.box
        have hc3 := (hb13.block _ chl).trans hch.out
        have hc3l := (Array.getElem?_eq_some_iff.1 hc3).1
        obtain ⟨_, y1, y2, y3, _⟩ := nine_cells hc3
        rw [hp'.out] at y1
        rw [hA] at f0
        have bl3 := hO3.out.size
        have hadl := World.block_lt_of_cell? w3 _ c0
        replace hPe := Lib.hid hPe
        have hA' := Lib.hid hA
        replace hb13 := Lib.hid hb13
        replace hb3 := Lib.hid hb3
        replace hc3 := Lib.hid hc3
        clear hA e0 e2 e3 e4 e5 ych1 ych2 ych3 hP3 t1
        have S0 : Hid (w3.drew.cell? ⟨b, 0, none⟩ = some (.slice (some ad) pl.length c) ∧ w3.drew.cell? ⟨W.heap.size, 1, none⟩ = some (.int .i64 p) ∧ w3.drew.cell? (ad.add (p * 9)) = some (.string P.name) ∧ w3.drew.cell? ⟨(ad.add (p * 9)).block, (ad.add (p * 9)).off + 1, none⟩ = some (.int .i64 P.crop) ∧ w3.drew.cell? ⟨(ad.add (p * 9)).block, (ad.add (p * 9)).off + 2, none⟩ = some (.int .i64 P.size) ∧ w3.drew.cell? ⟨(ad.add (p * 9)).block, (ad.add (p * 9)).off + 3, none⟩ = some (.int .i64 P.yield.lo) ∧ w3.drew.cell? ⟨(ad.add (p * 9)).block, (ad.add (p * 9)).off + 4, none⟩ = some (.int .i64 P.yield.hi) ∧ w3.drew.cell? ⟨(ad.add (p * 9)).block, (ad.add (p * 9)).off + 5, none⟩ = some (.int .i64 P.rest) ∧ w3.drew.cell? ⟨(ad.add (p * 9)).block, (ad.add (p * 9)).off + 6, none⟩ = some (.int .i64 P.wet.lo) ∧ w3.drew.cell? ⟨(ad.add (p * 9)).block, (ad.add (p * 9)).off + 7, none⟩ = some (.int .i64 P.wet.hi) ∧ w3.drew.cell? ⟨(ad.add (p * 9)).block, (ad.add (p * 9)).off + 8, none⟩ = some (.int .i64 P.cost)) := ⟨f0, y1, c0, c1, c2, c3, c4, c5, c6, c7, c8⟩
        go_region_held3 (fun w' => w'.cell? ⟨b, 0, none⟩ = some (.slice (some ad) pl.length c) ∧ w'.cell? ⟨W.heap.size, 1, none⟩ = some (.int .i64 p) ∧ w'.cell? (ad.add (p * 9)) = some (.string P.name) ∧ w'.cell? ⟨(ad.add (p * 9)).block, (ad.add (p * 9)).off + 1, none⟩ = some (.int .i64 P.crop) ∧ w'.cell? ⟨(ad.add (p * 9)).block, (ad.add (p * 9)).off + 2, none⟩ = some (.int .i64 P.size) ∧ w'.cell? ⟨(ad.add (p * 9)).block, (ad.add (p * 9)).off + 3, none⟩ = some (.int .i64 P.yield.lo) ∧ w'.cell? ⟨(ad.add (p * 9)).block, (ad.add (p * 9)).off + 4, none⟩ = some (.int .i64 P.yield.hi) ∧ w'.cell? ⟨(ad.add (p * 9)).block, (ad.add (p * 9)).off + 5, none⟩ = some (.int .i64 P.rest) ∧ w'.cell? ⟨(ad.add (p * 9)).block, (ad.add (p * 9)).off + 6, none⟩ = some (.int .i64 P.wet.lo) ∧ w'.cell? ⟨(ad.add (p * 9)).block, (ad.add (p * 9)).off + 7, none⟩ = some (.int .i64 P.wet.hi) ∧ w'.cell? ⟨(ad.add (p * 9)).block, (ad.add (p * 9)).off + 8, none⟩ = some (.int .i64 P.cost))
          (first | (with_reducible exact S0.out) | (with_reducible assumption) | go_keep) (fail)
        obtain ⟨w4, hw4⟩ : ∃ w4, w4 = (w3.alloc (.cells (plotCells P) 88)).drew := ⟨_, rfl⟩
        rw [← hw4]
        have hb4 : Below w3.heap.size w3 w4 := by rw [hw4]; exact ((Below.refl _ w3).alloc (Nat.le_refl _) _).drew
        have hx : w4.heap[w3.heap.size]? = some (.cells (plotCells P) 88 (0, 0)) := by rw [hw4]; exact heap_new w3 _ _ rfl
        have hxl := (Array.getElem?_eq_some_iff.1 hx).1
        have hO4 := Lib.hid (hO3.out.later hb4)
        have hc4 := (hb4.block _ hc3l).trans hc3.out
        have hcl := (Array.getElem?_eq_some_iff.1 hc4).1
        have hb14 : Hid (Below B W w4) := (hb1.out.trans (hb13.out.mono h1.out.bLe)).trans (hb4.mono hO3.out.bLe)
        have hpl3 : p < s.last.length := by omega
        have hpg3 : p < s.given.length := by omega
        obtain ⟨gl, hgl, l0, lf⟩ := hO4.out.rows.lastAt hpl3
        obtain ⟨gg, hgg, g0, gf⟩ := hO4.out.rows.givenAt hpg3
        obtain ⟨lv, hlve⟩ : ∃ lv, lv = s.last[p] := ⟨_, rfl⟩
        obtain ⟨gv, hgve⟩ : ∃ gv, gv = s.given[p] := ⟨_, rfl⟩
        have hlb := hlve ▸ hlv _ (List.getElem_mem hpl3)
        have hgb := hgve ▸ hgv _ (List.getElem_mem hpg3)
        rw [← hlve] at l0
        rw [← hgve] at g0
        have hld : Hid (s.last.getD a.plot.toNat 0 = lv) := by unfold Hid; rw [hp'.out, Int.toNat_natCast, getD_lt _ hpl3, hlve]
        have hgd : Hid (s.given.getD a.plot.toNat 0 = gv) := by unfold Hid; rw [hp'.out, Int.toNat_natCast, getD_lt _ hpg3, hgve]
        have hpn : Hid (a.plot.toNat = p) := by unfold Hid; rw [hp'.out, Int.toNat_natCast]
        obtain ⟨f0, f1, f2, f3, f4, f5, _⟩ := eight_cells hO4.out.box
        rw [hgl] at f3
        rw [hgg] at f4
        obtain ⟨q0, q1, q2, q3, q4, q5, q6, q7, q8⟩ := nine_cells hx
        obtain ⟨_, y1, y2, y3, _⟩ := nine_cells hc4
        rw [hp'.out] at y1
        have bl4 := hO4.out.size
        have hgl4 := World.block_lt_of_cell? w4 _ l0
        have hgg4 := World.block_lt_of_cell? w4 _ g0
        have hgl' := Lib.hid hgl
        have hgg' := Lib.hid hgg
        replace hlve := Lib.hid hlve
        replace hgve := Lib.hid hgve
        replace hw4 := Lib.hid hw4
        replace hb4 := Lib.hid hb4
        replace hx := Lib.hid hx
        replace hc4 := Lib.hid hc4
        have hlz : (s.last.length : Int) = pl.length := by omega
        have hgz : (s.given.length : Int) = pl.length := by omega
        have hwy : IntKind.i64.wrap (s.year - P.rest) = s.year - P.rest := IntWalk.i64_in _ (by omega)
        replace hlz := Lib.hid hlz
        replace hgz := Lib.hid hgz
        clear S0 c0 c1 c2 c3 c4 c5 c6 c7 c8 hgl hgg y3 q0 q6 q7 q8
        go_wp2
        by_cases t4 : lv < 0 ∨ lv ≤ s.year - P.rest
        · refine (Decidable.em (lv < 0)).elim (fun t4a => ?_) (fun t4a => ?_)
          all_goals
            first
              | (have t4b : decide (lv < 0) = true := decide_eq_true t4a; go_big_quiet (first | (go_at_call 75; exact Calls.quiet_of_same (demand_ok _ _))))
              | (have t4b : decide (lv < 0) = false := decide_eq_false t4a; have t4c : decide (lv ≤ s.year - P.rest) = true := decide_eq_true (t4.resolve_left t4a); go_big_quiet (first | (go_at_call 75; exact Calls.quiet_of_same (demand_ok _ _))))
          all_goals
            obtain ⟨w5, hw5⟩ : ∃ w5, w5 = w4.drewN nq := ⟨_, rfl⟩
            rw [← hw5]
            have hb5 : Below w4.heap.size w4 w5 := by rw [hw5]; exact below_drewN_ _ _
            obtain ⟨rb, sb⟩ := bcell hb5
            have hO5 := Lib.hid (hO4.out.later hb5)
            have hb15 : Hid (Below B W w5) := hb14.out.trans (hb5.mono hO4.out.bLe)
            have hbl5 := hO5.out.size
            have hcl5 : W.heap.size < w5.heap.size := Nat.lt_of_lt_of_le hcl hb5.size
            have hxl5 : w3.heap.size < w5.heap.size := Nat.lt_of_lt_of_le hxl hb5.size
            have hgl5 : gl < w5.heap.size := Nat.lt_of_lt_of_le hgl4 hb5.size
            have hgg5 : gg < w5.heap.size := Nat.lt_of_lt_of_le hgg4 hb5.size
            have hgrow : Hid (∀ k (hk : k < s.given.length), w5.cell? ⟨gg, k, none⟩ = some (.int .i64 s.given[k])) := fun k hk => by
              obtain ⟨g', hg1, hg2, _⟩ := hO5.out.rows.givenAt hk
              rw [hgg'.out] at hg1
              cases hg1
              exact hg2
            replace hb5 := Lib.hid hb5
            replace hw5 := Lib.hid hw5
            obtain ⟨m1, hm1⟩ : ∃ m1, m1 = P.size * P.yield.lo := ⟨_, rfl⟩
            obtain ⟨m2, hm2⟩ : ∃ m2, m2 = P.size * P.yield.hi := ⟨_, rfl⟩
            have hm1b : 0 ≤ m1 ∧ m1 ≤ 100000 := by
              rw [hm1]
              exact ⟨Int.mul_nonneg (by omega) z3, Int.le_trans (Int.mul_le_mul_of_nonneg_right z2 z3) (by omega)⟩
            have hm2b : 0 ≤ m2 ∧ m2 ≤ 100000 := by
              rw [hm2]
              exact ⟨Int.mul_nonneg (by omega) (by omega), Int.le_trans (Int.mul_le_mul_of_nonneg_right z2 (by omega)) (by omega)⟩
            have hwm1 : IntKind.i64.wrap (P.size * P.yield.lo) = m1 := by rw [← hm1]; exact IntWalk.i64_in _ (by omega)
            have hwm2 : IntKind.i64.wrap (P.size * P.yield.hi) = m2 := by rw [← hm2]; exact IntWalk.i64_in _ (by omega)
            have hq43b : Hid (∀ W', Calls Try.prog 43 #[.int .i64 a.loads, .int .i64 m1, .int .i64 m2] W' fun e w' => e = .returned (.bool (inB a.loads m1 m2)) ∧ W' = w') := fun W' => in_any _ _ _ _
            replace hm1 := Lib.hid hm1
            replace hm2 := Lib.hid hm2
            have hpre : Hid (∀ Z : Int × Store, (¬ (a.loads ≠ 0 ∧ inB a.loads m1 m2 = true) → (1, s) = Z) → (a.loads ≠ 0 ∧ inB a.loads m1 m2 = true → ¬ (s.heaps.length < 16 ∧ a.loads + s.given.sum ≤ 100000) → (3, s) = Z) → (a.loads ≠ 0 ∧ inB a.loads m1 m2 = true → (s.heaps.length < 16 ∧ a.loads + s.given.sum ≤ 100000) → (0, { s with last := s.last.set p s.year, given := s.given.set p (gv + a.loads), heaps := s.heaps ++ [⟨a.name, P.crop, 1, [⟨a.plot, a.loads⟩], 0, P.wet, none, 0⟩] }) = Z) → mowP pl s a = Z) := fun Z c1 c2 c3 => by
              unfold mowP
              rw [if_neg (by rw [hq1]; decide), if_neg (by rw [t2]; decide), if_neg (by have := t3.out; omega), hld.out, hpd.out, if_neg (fun h => h t4), ← hm1.out, ← hm2.out, hgd.out, hpn.out]
              by_cases d1 : a.loads ≠ 0 ∧ inB a.loads m1 m2 = true
              · rw [if_neg (fun h => h d1)]
                by_cases d2 : s.heaps.length < 16 ∧ a.loads + s.given.sum ≤ 100000
                · rw [if_neg (fun h => h d2)]; exact c3 d1 d2
                · rw [if_pos d2]; exact c2 d1 d2
              · rw [if_pos d1]; exact c1 d1
            clear z1 z2 z3 z4 z5 z6 z7
            by_cases tz : a.loads = 0
            · have hbz : (a.loads != 0) = false := by simpa using tz
              have hr : Hid (mowP pl s a = (1, s)) := hpre.out _ (fun _ => rfl) (fun d => absurd tz d.1) (fun d => absurd tz d.1)
              replace tz := Lib.hid tz
              go_wp2_with (first | (go_at_call 75; (with_reducible refine (demand_no _ _).mono ?_); rintro e w6 ⟨rfl, rfl⟩))
              rw [hr.out]
              exact ⟨rfl, hb15.out, .inl ⟨(by decide : (1 : Int) ≠ 0), rfl⟩⟩
            · have hbz : (a.loads != 0) = true := by simpa using tz
              cases t5 : inB a.loads m1 m2 with
              | false =>
                have hr : Hid (mowP pl s a = (1, s)) := hpre.out _ (fun _ => rfl) (fun d => by rw [t5] at d; exact absurd d.2 (by decide)) (fun d => by rw [t5] at d; exact absurd d.2 (by decide))
                replace tz := Lib.hid tz
                go_wp2_with (first | (go_at_call 43; (with_reducible refine (hq43b.out _).mono ?_); rintro e w6 ⟨rfl, rfl⟩; rw [t5]) | (go_at_call 75; (with_reducible refine (demand_no _ _).mono ?_); rintro e w6 ⟨rfl, rfl⟩))
                rw [hr.out]
                exact ⟨rfl, hb15.out, .inl ⟨(by decide : (1 : Int) ≠ 0), rfl⟩⟩
              | true =>
                have hld2 := t5
                simp only [inB, Bool.and_eq_true, decide_eq_true_eq] at hld2
                obtain ⟨hld3, hld4⟩ := hld2
                have tz' : Hid (a.loads ≠ 0 ∧ inB a.loads m1 m2 = true) := ⟨tz, t5⟩
                replace tz := Lib.hid tz
                have hgs := Lib.hid (sum_take_bounds hgv (by omega))
                go_wp2_with (first | (go_at_call 43; (with_reducible refine (hq43b.out _).mono ?_); rintro e w6 ⟨rfl, rfl⟩; rw [t5]) | (go_at_call 75; (with_reducible refine (demand_on _ _).mono ?_); rintro e w6 ⟨rfl, rfl⟩))
                go_loopw [5, 92] (fun u i wr => ∃ k : Nat, u = .int .i64 (a.loads + (s.given.take k).sum) ∧ i = .int .i64 k ∧ k ≤ s.given.length ∧ Hid (wr = w5)) (fun _ i _ => s.given.length - (intOf i).toNat)
                case atStart => exact ⟨0, by simp, rfl, Nat.zero_le _, rfl⟩
                case round =>
                  obtain ⟨k, rfl, rfl, hk, hW⟩ := hrel
                  by_cases hlt : k < s.given.length
                  · have hg0 := hgrow.out k hlt
                    rw [← hW.out] at hg0
                    have hs1 := sum_take_succ s.given k hlt
                    have hs2 := hgs.out k hk
                    have hs3 := hgv _ (List.getElem_mem hlt)
                    obtain ⟨xk, hxk⟩ : ∃ xk, xk = s.given[k] := ⟨_, rfl⟩
                    obtain ⟨sk, hsk⟩ : ∃ sk, sk = (s.given.take k).sum := ⟨_, rfl⟩
                    rw [← hxk] at hg0 hs1 hs3
                    rw [← hsk] at hs1 hs2
                    rw [← hsk]
                    have hww : IntKind.i64.wrap (a.loads + sk + xk) = a.loads + sk + xk := IntWalk.i64_in _ (by omega)
                    replace hs1 := Lib.hid hs1
                    replace hxk := Lib.hid hxk
                    replace hsk := Lib.hid hsk
                    go_wp2
                    exact ⟨⟨k + 1, by rw [hs1.out, Int.add_assoc], by go_num, by omega, hW⟩, by simp only [intOf]; omega⟩
                  · have hke : k = s.given.length := by omega
                    subst hke
                    rw [List.take_length]
                    obtain rfl : w5 = wr := hW.out.symm
                    have hs2 := hgs.out _ (Nat.le_refl _)
                    rw [List.take_length] at hs2
                    obtain ⟨sg, hsg⟩ : ∃ sg, sg = s.given.sum := ⟨_, rfl⟩
                    rw [← hsg] at hpre hs2
                    rw [← hsg]
                    replace hsg := Lib.hid hsg
                    by_cases d2a : s.heaps.length < 16
                    · have d2a' : decide ((s.heaps.length : Int) < 16) = true := by simp; omega
                      by_cases d2b : a.loads + sg ≤ 100000
                      · have d2b' : decide (a.loads + sg ≤ 100000) = true := decide_eq_true d2b
                        have hr : Hid (mowP pl s a = (0, { s with last := s.last.set p s.year, given := s.given.set p (gv + a.loads), heaps := s.heaps ++ [⟨a.name, P.crop, 1, [⟨a.plot, a.loads⟩], 0, P.wet, none, 0⟩] })) := hpre.out _ (fun d => absurd tz'.out d) (fun _ d => absurd ⟨d2a, d2b⟩ d) (fun _ _ => rfl)
                        go_wp2_with (first | (go_at_call 75; (with_reducible refine (demand_on _ _).mono ?_); rintro e w6 ⟨rfl, rfl⟩))
                        have hlw : gl < W.heap.size ∧ gg < W.heap.size := ⟨(h.rows.lastLt (by rw [hgl'.out]; rfl)).2, (h.rows.givenLt (by rw [hgg'.out]; rfl)).2⟩
                        have hwle : W.heap.size ≤ w3.heap.size := Nat.le_of_lt hc3l
                        have hc5 : w5.heap[W.heap.size]? = some (.cells (choreCells a) 64 (0, 0)) := (hb5.out.block _ hcl).trans hc4.out
                        have hx5 : w5.heap[w3.heap.size]? = some (.cells (plotCells P) 88 (0, 0)) := (hb5.out.block _ hxl).trans hx.out
                        clear hgrow
                        have f0' := (rb gl p hgl4).trans l0
                        have ff0 := (sb gl p hgl4).trans lf
                        refine wp_region_last 13 rfl (by kernel_rfl) (by kernel_rfl) ?_
                        simp only [List.take_succ_cons, List.take_zero]
                        repeat (go_big_quiet_step (fail))
                        refine wpQuiet_nil ?_
                        rintro _ ⟨nq2, rfl⟩
                        go_simp
                        have h6 := (hO5.out.later (below_drewN_ w5 nq2)).lastTo (i := p) hgl'.out s.year
                        obtain ⟨w6, hw6⟩ : ∃ w6, w6 = (w5.drewN nq2).setCell ⟨gl, p, none⟩ (.int .i64 s.year) := ⟨_, rfl⟩
                        rw [← hw6] at h6 ⊢
                        have hc6 : w6.heap[W.heap.size]? = some (.cells (choreCells a) 64 (0, 0)) := by rw [hw6, Below.heap_setCell _ _ _ _ (show W.heap.size ≠ gl by omega)]; exact hc5
                        have hx6 : w6.heap[w3.heap.size]? = some (.cells (plotCells P) 88 (0, 0)) := by rw [hw6, Below.heap_setCell _ _ _ _ (show w3.heap.size ≠ gl by omega)]; exact hx5
                        have hb16 := Lib.hid ((hb15.out.trans (below_drewN_ w5 nq2)).trans h6.2)
                        have hO6 := Lib.hid h6.1
                        obtain ⟨g', hg1, hg2, hg3⟩ := hO6.out.rows.givenAt hpg3
                        rw [hgg'.out] at hg1
                        cases hg1
                        rw [show ({ s with last := s.last.set p s.year } : Store).given[p] = gv from hgve.out.symm] at hg2
                        obtain ⟨_, _, _, _, e4, _⟩ := eight_cells hO6.out.box
                        rw [show ({ s with last := s.last.set p s.year } : Store).ga = s.ga from rfl, hgg'.out] at e4
                        obtain ⟨_, y1', y2', _⟩ := nine_cells hc6
                        rw [hp'.out] at y1'
                        have bl6 := hO6.out.size
                        have hz6 : w6.heap.size = w5.heap.size := by rw [hw6, set_size]; rfl
                        have hcl6 : W.heap.size < w6.heap.size := by rw [hz6]; exact hcl5
                        have hgg6 : gg < w6.heap.size := by rw [hz6]; exact hgg5
                        have hxl6 : w3.heap.size < w6.heap.size := by rw [hz6]; exact hxl5
                        have hwg : IntKind.i64.wrap (gv + a.loads) = gv + a.loads := IntWalk.i64_in _ (by omega)
                        replace hw6 := Lib.hid hw6
                        replace hc6 := Lib.hid hc6
                        replace hx6 := Lib.hid hx6
                        clear h6 rb sb f0' ff0 l0 lf g0 gf f0 f1 f2 f3 f4 f5 q1 q2 q3 q4 q5 y1 y2
                        go_wp2
                        refine wp_region_last 13 rfl (by kernel_rfl) (by kernel_rfl) ?_
                        simp only [List.take_succ_cons, List.take_zero]
                        repeat (go_big_quiet_step (fail))
                        refine wpQuiet_nil ?_
                        rintro _ ⟨nq3, rfl⟩
                        go_simp
                        have h7 := (hO6.out.later (below_drewN_ w6 nq3)).givenTo (i := p) hgg'.out (gv + a.loads)
                        obtain ⟨w7, hw7⟩ : ∃ w7, w7 = (w6.drewN nq3).setCell ⟨gg, p, none⟩ (.int .i64 (gv + a.loads)) := ⟨_, rfl⟩
                        rw [← hw7] at h7 ⊢
                        have hc7 : w7.heap[W.heap.size]? = some (.cells (choreCells a) 64 (0, 0)) := by rw [hw7, Below.heap_setCell _ _ _ _ (show W.heap.size ≠ gg by omega)]; exact hc6.out
                        have hx7 : w7.heap[w3.heap.size]? = some (.cells (plotCells P) 88 (0, 0)) := by rw [hw7, Below.heap_setCell _ _ _ _ (show w3.heap.size ≠ gg by omega)]; exact hx6.out
                        have hb17 := Lib.hid ((hb16.out.trans (below_drewN_ w6 nq3)).trans h7.2)
                        have hO7 := Lib.hid h7.1
                        have hz7 : w7.heap.size = w6.heap.size := by rw [hw7, set_size]; rfl
                        have hcl7 : W.heap.size < w7.heap.size := by rw [hz7]; exact hcl6
                        have hxl7 : w3.heap.size < w7.heap.size := by rw [hz7]; exact hxl6
                        have bl7 := hO7.out.size
                        replace hw7 := Lib.hid hw7
                        replace hz6 := Lib.hid hz6
                        replace hz7 := Lib.hid hz7
                        clear h7 e4 hg2 hg3 y1' y2'
                        go_wp2
                        have hkq : Hid (∀ W' : World, Kept3 W.heap.size w3.heap.size b w7 W' → W'.cell? ⟨W.heap.size, 1, none⟩ = some (.int .i64 p) ∧ W'.cell? ⟨W.heap.size, 2, none⟩ = some (.int .i64 a.loads) ∧ W'.cell? ⟨W.heap.size, 3, none⟩ = some (.string a.name) ∧ W'.cell? ⟨w3.heap.size, 1, none⟩ = some (.int .i64 P.crop) ∧ W'.cell? ⟨w3.heap.size, 6, none⟩ = some (.int .i64 P.wet.lo) ∧ W'.cell? ⟨w3.heap.size, 7, none⟩ = some (.int .i64 P.wet.hi) ∧ W'.cell? ⟨b, 5, none⟩ = some (.slice s.ha s.heaps.length s.hc) ∧ W'.frozen? ⟨b, 5, none⟩ = false) := fun W' hW' => by
                          have k1 := nine_cells (hW'.1.trans hc7)
                          have k2 := nine_cells (hW'.2.1.trans hx7)
                          have k3 := hW'.2.2.trans hO7.out.box
                          exact ⟨by rw [← hp'.out]; exact k1.2.1, k1.2.2.1, k1.2.2.2.1, k2.2.1, k2.2.2.2.2.2.2.1, k2.2.2.2.2.2.2.2.1, (eight_cells k3).2.2.2.2.2.1, frozen_of_row _ _ _ _ _ k3⟩
                        obtain ⟨i0, hi0, hz0, hs0, hbb0⟩ := info_parts info77
                        have hm63 : Hid (s.heaps.length + 1 ≤ maxLen) := by unfold Hid maxLen; omega
                        have hmby : Hid ((s.heaps.length + 1) * 80 ≤ 140737488355328) := by unfold Hid; omega
                        have hown7 : Hid (∀ W', Below w7.heap.size w7 W' → W'.ownsRow B 77 7 (.slice s.ha s.heaps.length s.hc) s.heaps.length (s.heaps.flatMap encHeap)) := fun W' hW' => (hO7.out.later hW').rows.heaps
                        have hnb7 : Hid (∀ x, (Value.slice s.ha s.heaps.length s.hc).ownBlock = some x → x ≠ b ∧ x ≠ W.heap.size ∧ x ≠ w3.heap.size) := fun x e => by
                          rw [ownBlock_slice] at e
                          have e1 := (h.rows.heapsLt e).2
                          exact ⟨fun e2 => h.rows.a3 x e (by rw [e2]), by omega, by omega⟩
                        have hbW : Hid (∀ W' W'' : World, W'.grownBy W'' (Value.slice s.ha s.heaps.length s.hc).ownBlock → Kept3 W.heap.size w3.heap.size b w7 W' → w7.heap.size ≤ W'.heap.size → Kept3 W.heap.size w3.heap.size b w7 W'') := fun W' W'' hg hW' hz =>
                          ⟨(hg.block _ (by omega) (fun e => (hnb7.out _ e.symm).2.1 rfl)).trans hW'.1, (hg.block _ (by omega) (fun e => (hnb7.out _ e.symm).2.2 rfl)).trans hW'.2.1, (hg.block _ (by omega) (fun e => (hnb7.out _ e.symm).1 rfl)).trans hW'.2.2⟩
                        refine wp_region_seq (fun w' => Kept3 W.heap.size w3.heap.size b w7 w') ((List.range 15).map (fun i => (i, true)) ++ [(16, true), (17, true), (15, false), (18, true), (19, false), (20, false), (21, true), (22, true), (23, true), (24, false)]) 24 (by kernel_rfl) (by kernel_rfl) ⟨rfl, rfl, rfl⟩ ?_
                        rw [show (List.range 15).map (fun i => (i, true)) ++ [(16, true), (17, true), (15, false), (18, true), (19, false), (20, false), (21, true), (22, true), (23, true), (24, false)] = [(0, true), (1, true), (2, true), (3, true), (4, true), (5, true), (6, true), (7, true), (8, true), (9, true), (10, true), (11, true), (12, true), (13, true), (14, true), (16, true), (17, true), (15, false), (18, true), (19, false), (20, false), (21, true), (22, true), (23, true), (24, false)] from rfl]
                        repeat
                          (refine wpSeq_take (v := ?_) rfl (by rfl) ?_ (fun _ _ _ h => h) ?_
                           rotate_left
                           (focus (intro w' hSw; obtain ⟨k1, k2, k3, k4, k5, k6, k7, k8⟩ := hkq.out _ hSw; clear hSw; try simp only [List.getElem_toArray, List.getElem_cons_zero, List.getElem_cons_succ]; go_simp; try with_reducible rfl))
                           simp only [List.getElem_toArray, List.getElem_cons_zero, List.getElem_cons_succ, Act.put, List.setIfInBounds_toArray, List.set_cons_zero, List.set_cons_succ])
                        refine wpSeq_do rfl (by rfl) ?_
                        go_simp
                        obtain ⟨W8, hW8⟩ : ∃ W8, W8 = (w7.alloc (.cells #[.int .i64 p, .int .i64 a.loads] 91)).drew := ⟨_, rfl⟩
                        rw [← hW8]
                        have hb8 : Below w7.heap.size w7 W8 := by rw [hW8]; exact ((Below.refl _ w7).alloc (Nat.le_refl _) _).drew
                        have hS8 : Kept3 W.heap.size w3.heap.size b w7 W8 := ⟨hb8.block _ hcl7, hb8.block _ hxl7, hb8.block _ bl7⟩
                        have hrd8 : Hid (RdParts W8 (some ⟨w7.heap.size, 0, none⟩) [⟨p, a.loads⟩]) := by
                          have e : W8.heap[w7.heap.size]? = some (.cells #[.int .i64 p, .int .i64 a.loads] 91 (0, 0)) := by rw [hW8]; exact heap_new w7 _ _ rfl
                          refine ⟨by simp, fun i x hx => ⟨_, rfl, fun j u hu => ?_⟩⟩
                          have hi : i = 0 := by cases i with | zero => rfl | succ i => simp at hx
                          subst hi
                          simp at hx
                          subst hx
                          rw [lit_add, Nat.zero_mul, Nat.zero_add]
                          simp only [World.cell?, e]
                          simpa [encPortion] using hu
                        replace hW8 := Lib.hid hW8
                        refine ⟨hS8, ?_⟩
                        repeat
                          (refine wpSeq_take (v := ?_) rfl (by rfl) ?_ (fun _ _ _ h => h) ?_
                           rotate_left
                           (focus (intro w' hSw; obtain ⟨k1, k2, k3, k4, k5, k6, k7, k8⟩ := hkq.out _ hSw; clear hSw; try simp only [List.getElem_toArray, List.getElem_cons_zero, List.getElem_cons_succ]; go_simp; try with_reducible rfl))
                           simp only [List.getElem_toArray, List.getElem_cons_zero, List.getElem_cons_succ, Act.put, List.setIfInBounds_toArray, List.set_cons_zero, List.set_cons_succ])
                        refine wpSeq_do rfl (by rfl) ?_
                        go_simp
                        obtain ⟨W9, hW9⟩ : ∃ W9, W9 = W8.alloc (.cells #[.string a.name, .int .i64 P.crop, .int .i64 1, .slice (some ⟨w7.heap.size, 0, none⟩) 1 1, .int .i64 0, .int .i64 P.wet.lo, .int .i64 P.wet.hi] 77) := ⟨_, rfl⟩
                        rw [← hW9]
                        have hb9 : Below W8.heap.size W8 W9 := by rw [hW9]; exact (Below.refl _ W8).alloc (Nat.le_refl _) _
                        have hb79 : Below w7.heap.size w7 W9 := hb8.trans (hb9.mono hb8.size)
                        have hS9 : Kept3 W.heap.size w3.heap.size b w7 W9 := ⟨hb79.block _ hcl7, hb79.block _ hxl7, hb79.block _ bl7⟩
                        have hnew : Hid (∀ j u, (encHeap ⟨a.name, P.crop, 1, [⟨p, a.loads⟩], 0, P.wet, some ⟨w7.heap.size, 0, none⟩, 1⟩)[j]? = some u → W9.cell? ((⟨W8.heap.size, 0, none⟩ : Addr).add j) = some u) := fun j u hu => by
                          rw [lit_add]
                          have h2 : W9.heap[W8.heap.size]? = some (.cells #[.string a.name, .int .i64 P.crop, .int .i64 1, .slice (some ⟨w7.heap.size, 0, none⟩) 1 1, .int .i64 0, .int .i64 P.wet.lo, .int .i64 P.wet.hi] 77 (0, 0)) := by rw [hW9]; exact heap_new W8 _ _ rfl
                          simp only [World.cell?, h2]
                          simpa [encHeap] using hu
                        have hone : ∀ u ∈ encHeap ⟨a.name, P.crop, 1, [⟨p, a.loads⟩], 0, P.wet, some ⟨w7.heap.size, 0, none⟩, 1⟩, u.oneCell' = true := fun u hu => by
                          simp [encHeap] at hu
                          rcases hu with rfl | rfl | rfl | rfl | rfl | rfl | rfl <;> rfl
                        replace hone := Lib.hid hone
                        replace hW9 := Lib.hid hW9
                        refine ⟨hS9, ?_⟩
                        refine wpSeq_do rfl (by rfl) ?_
                        simp only [List.getElem_toArray, List.getElem_cons_zero, List.getElem_cons_succ]
                        refine wp_append_lies _ (.tmp 143) (.tmp 157) 40 rfl B 77 i0 (.agg #[.string ByteArray.empty, .int .i64 0, .int .i64 0, .slice none 0 0, .int .i64 0, .int .i64 0, .int .i64 0]) 7 80 Try.underlying40 hi0 hz0 hs0 hbb0 rfl (by decide) (.slice s.ha s.heaps.length s.hc) s.heaps.length (s.heaps.flatMap encHeap) (by simp [Act.eval]) (hown7.out _ hb79) ⟨W8.heap.size, 0, none⟩ 1 1 (encHeap ⟨a.name, P.crop, 1, [⟨p, a.loads⟩], 0, P.wet, some ⟨w7.heap.size, 0, none⟩, 1⟩) (by simp [Act.eval]) rfl hnew.out hone.out (by decide) hm63.out hmby.out (Nat.le_trans hO7.out.bLe hb79.size) _ rfl ?_
                        intro g2 cap2 w10 hrow10 hgr10 hnear10 hgl10
                        have hS10 := hbW.out _ _ hgr10 hS9 hb79.size
                        refine ⟨fun _ => hS10, ?_⟩
                        simp only [Act.put, List.setIfInBounds_toArray, List.set_cons_zero, List.set_cons_succ]
                        obtain ⟨_, _, _, _, _, _, c5', f5'⟩ := hkq.out _ hS10
                        repeat
                          (refine wpSeq_take (v := ?_) rfl (by rfl) ?_ (fun _ _ _ h => h) ?_
                           rotate_left
                           (focus (intro w' hSw; obtain ⟨k1, k2, k3, k4, k5, k6, k7, k8⟩ := hkq.out _ hSw; clear hSw; try simp only [List.getElem_toArray, List.getElem_cons_zero, List.getElem_cons_succ]; go_simp; try with_reducible rfl))
                           simp only [List.getElem_toArray, List.getElem_cons_zero, List.getElem_cons_succ, Act.put, List.setIfInBounds_toArray, List.set_cons_zero, List.set_cons_succ])
                        refine wpSeq_do rfl (by rfl) ?_
                        go_simp
                        unfold wpSeq
                        go_end0
                        have hO9 := hO7.out.later hb79
                        have hnw : ∀ x, [(⟨p, a.loads⟩ : Portion)] ≠ [] → blk (some ⟨w7.heap.size, 0, none⟩) = some x → Off { s with last := s.last.set p s.year, given := s.given.set p (gv + a.loads) } (some b) x := fun x _ e => hO7.out.rows.newOff (by have e1 : w7.heap.size = x := (by simpa [blk] using e); omega)
                        have h11 := hO9.push ⟨a.name, P.crop, 1, [⟨p, a.loads⟩], 0, P.wet, some ⟨w7.heap.size, 0, none⟩, 1⟩ hgr10 hrow10 (hnear10.imp id (fun e => by rw [e]; exact Nat.le_refl _)) ⟨⟨hrd8.out.below hb9, ho1⟩, hnw⟩ (by show s.heaps.length < 1000; omega)
                        rw [hr.out]
                        refine ⟨(hb17.out.trans (hb79.mono hO7.out.bLe)).trans h11.2, .inr ⟨rfl, rfl, _, ?_, h11.1⟩⟩
                        refine ⟨rfl, rfl, rfl, ?_, rfl, rfl⟩
                        simp [bareH, hp'.out]
                      · have d2b' : decide (a.loads + sg ≤ 100000) = false := decide_eq_false d2b
                        have hr : Hid (mowP pl s a = (3, s)) := hpre.out _ (fun d => absurd tz'.out d) (fun _ _ => rfl) (fun _ d => absurd d.2 d2b)
                        go_wp2_with (first | (go_at_call 75; (with_reducible refine (demand_no _ _).mono ?_); rintro e w6 ⟨rfl, rfl⟩))
                        rw [hr.out]
                        exact ⟨rfl, hb15.out, .inl ⟨(by decide : (3 : Int) ≠ 0), rfl⟩⟩
                    · have d2a' : decide ((s.heaps.length : Int) < 16) = false := by simp; omega
                      have hr : Hid (mowP pl s a = (3, s)) := hpre.out _ (fun d => absurd tz'.out d) (fun _ _ => rfl) (fun _ d => absurd d.1 d2a)
                      go_wp2_with (first | (go_at_call 75; (with_reducible refine (demand_no _ _).mono ?_); rintro e w6 ⟨rfl, rfl⟩))
                      rw [hr.out]
                      exact ⟨rfl, hb15.out, .inl ⟨(by decide : (3 : Int) ≠ 0), rfl⟩⟩
        · have t4b : decide (lv < 0) = false := decide_eq_false (by omega)
          have t4c : decide (lv ≤ s.year - P.rest) = false := decide_eq_false (by omega)
          have hr : Hid (mowP pl s a = (8, s)) := by unfold Hid mowP; rw [if_neg (by rw [hq1]; decide), if_neg (by rw [t2]; decide), if_neg (by have := t3.out; omega), hld.out, hpd.out, if_pos t4]
          refine wp_region_last 30 rfl (by kernel_rfl) (by kernel_rfl) ?_
          simp only [List.take_succ_cons, List.take_zero]
          repeat (go_big_quiet_step (fail))
          refine wpQuiet_nil ?_
          rintro _ ⟨nq, rfl⟩
          go_simp
          (with_reducible refine (demand_no _ _).mono ?_)
          rintro e w8 ⟨rfl, rfl⟩
          rw [hr.out]
          exact ⟨rfl, hb14.out.trans (below_drewN_ _ _), .inl ⟨(by decide : (8 : Int) ≠ 0), rfl⟩⟩
end Go.Proofs.Ytpgkhlpepckfgaa
end
section
namespace Go.Proofs.Ytpgkhlpepckfgaa
open Go.RowKit Go.Lib

theorem kinds {k : Int} (h : 1 ≤ k ∧ k ≤ 8) : k = 1 ∨ k = 2 ∨ k = 3 ∨ k = 4 ∨ k = 5 ∨ k = 6 ∨ k = 7 ∨ k = 8 := by omega
/-- What the closure for a kind hands back. -/
def rawName (a : Chore) : Chore := { namedP a with kind := 0 }
theorem names_calls (a : Chore) (hk : 1 ≤ a.kind ∧ a.kind ≤ 8) (w : World) : Calls Try.prog (92 + 2 * (a.kind.toNat - 1)) #[choreVal a] w (NamesOut (rawName a) w) := by
  obtain ⟨k, p, l, nm, ot, d, pe, r⟩ := a
  rcases kinds hk with h | h | h | h | h | h | h | h <;> (simp only at h; subst h)
  · exact names92_any _ w
  · exact names94_any _ w
  · exact names96_any _ w
  · exact names98_any _ w
  · exact names100_any _ w
  · exact names102_any _ w
  · exact names104_any _ w
  · exact names106_any _ w
theorem raw_kind (a : Chore) : { rawName a with kind := a.kind } = namedP a := by
  unfold rawName namedP
  repeat' (first | rfl | (rename_i h; rw [h]) | split)
theorem work_calls (B b : Nat) (A : Option Addr) (pl : List Plot) (c : Nat) (dry : Int) (s : Store) (a : Chore) (W : World) (h : Own B b A pl.length c dry s W) (hP : RdPlots W A pl) (hG : DoG pl dry s)
    (ho1 : a.name.size ≤ 140737488351232) (ho2 : a.other.size ≤ 140737488351232) (hk : 1 ≤ a.kind ∧ a.kind ≤ 8) :
    Calls Try.prog (91 + 2 * (a.kind.toNat - 1)) #[ptr b, choreVal a] W (ShedOut B b A pl.length c dry (workP pl dry s a) W) := by
  have hlv : ∀ x ∈ s.last, -1000 ≤ x ∧ x ≤ 1000 := fun x hx => by have := hG.lasts x hx; omega
  have hgv : ∀ x ∈ s.given, 0 ≤ x ∧ x ≤ 100000000000000 := fun x hx => by have := hG.givens x hx; omega
  obtain ⟨k, p, l, nm, ot, d, pe, r⟩ := a
  rcases kinds hk with h' | h' | h' | h' | h' | h' | h' | h' <;> (simp only at h'; subst h')
  · exact year_any B b A _ c dry s _ W h hG.year
  · exact mow_any B b A pl c dry s _ W h hP hG.plots hG.plot hG.year hG.last hG.given hgv hlv hG.hlen ho1
  · exact dry_any B b A _ c dry s _ W h hG.wet
  · exact comb_any B b A _ c dry s _ W h hG.waste hG.heaps
  · exact join_any B b A _ c dry s _ W h hG.heaps
  · exact bind_any B b A _ c dry s _ W h hG.heaps ho2
  · exact use_any B b A _ c dry s _ W h hG.used hG.heaps hG.per
  · exact rot_any B b A _ c dry s _ W h hG.waste hG.heaps
theorem work_enters {k : Int} (hk : 1 ≤ k ∧ k ≤ 8) : Enters Try.prog (91 + 2 * (k.toNat - 1)) ∧ Enters Try.prog (92 + 2 * (k.toNat - 1)) := by
  rcases kinds hk with h | h | h | h | h | h | h | h <;> subst h
  · exact ⟨enters_of Try.func91 (by kernel_rfl) rfl, enters_of Try.func92 (by kernel_rfl) rfl⟩
  · exact ⟨enters_of Try.func93 (by kernel_rfl) rfl, enters_of Try.func94 (by kernel_rfl) rfl⟩
  · exact ⟨enters_of Try.func95 (by kernel_rfl) rfl, enters_of Try.func96 (by kernel_rfl) rfl⟩
  · exact ⟨enters_of Try.func97 (by kernel_rfl) rfl, enters_of Try.func98 (by kernel_rfl) rfl⟩
  · exact ⟨enters_of Try.func99 (by kernel_rfl) rfl, enters_of Try.func100 (by kernel_rfl) rfl⟩
  · exact ⟨enters_of Try.func101 (by kernel_rfl) rfl, enters_of Try.func102 (by kernel_rfl) rfl⟩
  · exact ⟨enters_of Try.func103 (by kernel_rfl) rfl, enters_of Try.func104 (by kernel_rfl) rfl⟩
  · exact ⟨enters_of Try.func105 (by kernel_rfl) rfl, enters_of Try.func106 (by kernel_rfl) rfl⟩
/-- How many parts a store holds. -/
theorem SameC.mild {s t : Store} (h : SameC s t) (hu : s.used.length ≤ 1000000) (hw : s.waste.length ≤ 1000000) (hh : ∀ x ∈ s.heaps, x.parts.length ≤ 1000000) : t.used.length ≤ 1000000 ∧ t.waste.length ≤ 1000000 ∧ ∀ x ∈ t.heaps, x.parts.length ≤ 1000000 := by
  refine ⟨h.used ▸ hu, h.waste ▸ hw, fun x hx => ?_⟩
  have h1 : bareH x ∈ s.heaps.map bareH := by rw [h.heaps]; exact List.mem_map.2 ⟨x, hx, rfl⟩
  obtain ⟨y, hy, e⟩ := List.mem_map.1 h1
  have e2 : (bareH y).parts = (bareH x).parts := by rw [e]
  have e3 : x.parts = y.parts := e2.symm
  rw [e3]
  exact hh y hy
theorem SameC.good {s t : Store} {pl : List Plot} {dry : Int} (h : SameC s t) (hG : DoG pl dry s) : DoG pl dry t := by
  obtain ⟨h1, h2, h3⟩ := h.mild hG.used.1 hG.waste.1 fun x hx => (hG.heaps.2 x hx).1
  exact good_do (by rw [← h.checkS]; exact checkS_ok hG.farm hG.store) h1 h2 h3
end Go.Proofs.Ytpgkhlpepckfgaa
end
