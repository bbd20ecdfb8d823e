/-
  The law StrawUsed, walked.
-/
import Derived.Test.YtpgkhlpepckfgaaXh00
import Derived.Test.YtpgkhlpepckfgaaXh02
import Derived.Test.YtpgkhlpepckfgaaXh03
set_option linter.all false
set_option linter.unusedVariables false
set_option linter.unusedSimpArgs false
namespace Go.Proofs.Ytpgkhlpepckfgaa
open Go.RowKit Go.Lib

/-- The farm alone. -/
structure LF (w : World) (A : Option Addr) (c : Nat) (pl : List Plot) (dry : Int) (W : World) : Prop where
  below : Below w.heap.size w W
  farm : W.heap[w.heap.size]? = some (.cells #[.slice A pl.length c, .int .i64 dry] 24 (0, 0))
  size : w.heap.size + 1 ≤ W.heap.size
section
variable {w : World} {A : Option Addr} {c : Nat} {pl : List Plot} {dry : Int} {W W' : World}
theorem LF.make : LF w A c pl dry (w.alloc (.cells #[.slice A pl.length c, .int .i64 dry] 24)) := ⟨(Below.refl _ w).alloc (Nat.le_refl _) _, heap_new _ _ _ rfl, by simp⟩
theorem LF.later (h : LF w A c pl dry W) (hb : Below W.heap.size W W') : LF w A c pl dry W' := by
  have hz := h.size
  exact ⟨h.below.trans (hb.mono h.below.size), (hb.block _ (by omega)).trans h.farm, Nat.le_trans hz hb.size⟩
end

set_option maxHeartbeats 4000000 in
set_option maxRecDepth 100000 in
theorem used_any (A : Option Addr) (c : Nat) (pl : List Plot) (dry : Int) (B : Option Addr) (cb : Nat) (l : List Chore) (x y z : Int) (w : World) (h : RdPlots w A pl) (hl : RdChores w B l) (hx : 0 ≤ x ∧ x ≤ 255) (hy : 0 ≤ y ∧ y ≤ 255) (hz : 0 ≤ z ∧ z ≤ 255) :
    Calls Try.prog 13 #[.agg #[.slice A pl.length c, .int .i64 dry], .slice B l.length cb, .int .u8 x, .int .u8 y, .int .u8 z] w fun e w' => e = .returned (.bool true) ∧ Below w.heap.size w w' := by
  obtain ⟨W0, hW0⟩ : ∃ W0, W0 = (w.alloc (.cells #[.slice A pl.length c, .int .i64 dry] 24)) := ⟨_, rfl⟩
  have hX0 : Hid (LF w A c pl dry W0) := by rw [hW0]; exact LF.make
  obtain ⟨p0, p1⟩ := cells2 hX0.out.farm
  go_enter Try.func13, Try.ntmps13
  go_upto_region 1 with fail
  rw [← hW0]
  replace hW0 := Lib.hid hW0
  by_cases h40 : 40 < l.length
  · go_wp2_with (first | (go_at_call 16; refine (great_any _ _ pl _ _ (h.below hX0.out.below)).mono ?_; rintro e w1 ⟨⟨b, rfl, hgr⟩, hb1⟩; have hX1 := Lib.hid (hX0.out.later hb1)) | (go_at_call 39; refine (long_any _ _ l _ (hl.below hX1.out.below)).mono ?_; rintro e w2 ⟨⟨b2, rfl, hlg⟩, hb2⟩; have hX2 := Lib.hid (hX1.out.later hb2)) | (go_at_call 17; refine (lives_any _).mono ?_; rintro e wL ⟨rfl, hbL⟩))
    all_goals go_ret
    all_goals first
      | exact ⟨rfl, (hX2.out.later hbL).below⟩
      | exact ⟨rfl, (hX1.out.later hbL).below⟩
  · have c42 : Hid (∀ W, LF w A c pl dry W → Calls Try.prog 42 #[.agg #[.slice A pl.length c, .int .i64 dry], .slice B l.length cb] W (AfterOut pl dry W)) := fun W hW => after_any A c pl dry B cb l W (h.below hW.below) (hl.below hW.below) (by omega)
    go_wp2_with (first | (go_at_call 16; refine (great_any _ _ pl _ _ (h.below hX0.out.below)).mono ?_; rintro e w1 ⟨⟨b, rfl, hgr⟩, hb1⟩; have hX1 := Lib.hid (hX0.out.later hb1)) | (go_at_call 39; refine (long_any _ _ l _ (hl.below hX1.out.below)).mono ?_; rintro e w2 ⟨⟨b2, rfl, hlg⟩, hb2⟩; have hX2 := Lib.hid (hX1.out.later hb2); obtain ⟨k0, k1⟩ := cells2 hX2.out.farm) | (go_at_call 17; refine (lives_any _).mono ?_; rintro e wL ⟨rfl, hbL⟩))
    · go_ret
      exact ⟨rfl, (hX1.out.later hbL).below⟩
    · go_ret
      exact ⟨rfl, (hX2.out.later hbL).below⟩
    go_at_call 42
    (with_reducible refine (c42.out _ hX2.out).mono ?_)
    rintro e w3 ⟨s, ok, rfl, hok, hb3⟩
    have hX3 := Lib.hid (hX2.out.later hb3)
    replace hok := Lib.hid hok
    clear p0 p1 k0 k1 hb1 hb2 hb3 c42 hgr hlg
    go_upto_region 4 with fail
    obtain ⟨ws, hws⟩ : ∃ x, x = w3.alloc (.cells (storeCells s) 43) := ⟨_, rfl⟩
    obtain ⟨bs, hbs⟩ : ∃ x, x = w3.heap.size := ⟨_, rfl⟩
    rw [← hws, ← hbs]
    have hbw : Below w3.heap.size w3 ws := by rw [hws]; exact (Below.refl _ w3).alloc (Nat.le_refl _) _
    have hxs : ws.heap[bs]? = some (.cells (storeCells s) 43 (0, 0)) := by rw [hws, hbs]; exact heap_new _ _ _ rfl
    have hXs := Lib.hid (hX3.out.later hbw)
    obtain ⟨m0, m1, m2, m3, m4, m5⟩ := six_cells hxs
    cases ok with
    | false =>
      replace hws := Lib.hid hws
      replace hbs := Lib.hid hbs
      replace hxs := Lib.hid hxs
      go_wp2_with (go_at_call 17; refine (lives_any _).mono ?_; rintro e wL ⟨rfl, hbL⟩)
      go_ret
      exact ⟨rfl, (hXs.out.later hbL).below⟩
    | true =>
      obtain ⟨hck, hrs3⟩ := hok.out rfl
      have hrs := hrs3.below hbw
      clear hrs3 hok hbw
      replace hws := Lib.hid hws
      replace hbs := Lib.hid hbs
      have hhl := hrs.heaps.1.1
      by_cases hz0 : s.heaps.length = 0
      · replace hxs := Lib.hid hxs
        go_wp2_with (go_at_call 17; refine (lives_any _).mono ?_; rintro e wL ⟨rfl, hbL⟩)
        go_ret
        exact ⟨rfl, (hXs.out.later hbL).below⟩
      · obtain ⟨q, hq, hqn⟩ : ∃ q : Nat, x.tmod (s.heaps.length : Int) = (q : Int) ∧ q < s.heaps.length := by
          have h1 := Int.tmod_nonneg (s.heaps.length : Int) hx.1
          have h2 := Int.tmod_lt_of_pos x (b := (s.heaps.length : Int)) (by omega)
          exact ⟨(x.tmod (s.heaps.length : Int)).toNat, by omega, by omega⟩
        obtain ⟨ad, hA, y0, y1, y2, y3, y4, y5, y6⟩ := (FlatRow.below hrs.heaps.1 (Below.refl _ ws)).at7 hqn rfl
        obtain ⟨nm, hnm⟩ : ∃ nm, nm = s.heaps[q].name := ⟨_, rfl⟩
        rw [← hnm] at y0
        rw [hA] at m3
        clear y1 y2 y3 y4 y5 y6
        replace hnm := Lib.hid hnm
        replace hA := Lib.hid hA
        have hwx : IntKind.i64.wrap x = x := IntWalk.i64_in _ (by omega)
        have hwq : IntKind.i64.wrap (q : Int) = q := IntWalk.i64_in _ (by omega)
        replace hxs := Lib.hid hxs
        go_upto_region 6 with fail
        go_big_quiet (fail)
        obtain ⟨wn, hwn⟩ : ∃ x, x = ws.drewN nq := ⟨_, rfl⟩
        have hbn : Below ws.heap.size ws wn := by rw [hwn]; exact below_drewN_ _ _
        have hxn : wn.heap[bs]? = some (.cells (storeCells s) 43 (0, 0)) := (hbn.block bs (Array.getElem?_eq_some_iff.1 hxs.out).1).trans hxs.out
        have hXn := Lib.hid (hXs.out.later hbn)
        have hrn := Lib.hid (hrs.below hbn)
        rw [← hwn]
        have hrs3' : ∀ q (hq : q < s.heaps.length), s.heaps[q].name.size ≤ 140737488351232 := fun q hq => (hrs.heaps.2 _ (List.getElem_mem hq)).2
        clear m0 m1 m2 m3 m4 m5 y0 hbn hrs
        replace hwn := Lib.hid hwn
        replace hq := Lib.hid hq
        obtain ⟨ya, hya⟩ : ∃ ya : Nat, y.tmod 20 = (ya : Int) := ⟨(y.tmod 20).toNat, by have := Int.tmod_nonneg (20 : Int) hy.1; omega⟩
        obtain ⟨za, hza⟩ : ∃ za : Nat, z.tmod 20 = (za : Int) := ⟨(z.tmod 20).toNat, by have := Int.tmod_nonneg (20 : Int) hz.1; omega⟩
        have hyl : ya < 20 := by have := Int.tmod_lt_of_pos y (b := (20 : Int)) (by omega); omega
        have hzl : za < 20 := by have := Int.tmod_lt_of_pos z (b := (20 : Int)) (by omega); omega
        have hrn' := hrn.out
        have hnms : nm.size ≤ 140737488351232 := by rw [hnm.out]; exact (hrs3' q hqn)
        obtain ⟨e1, e2, e3⟩ := (check_ok hck).lens
        have hu : s.used.length ≤ 1000000 := by omega
        have hwl : s.waste.length ≤ 1000000 := by omega
        have hh : ∀ x ∈ s.heaps, x.parts.length ≤ 1000000 := fun x hx => by have := e3 x hx; omega
        have c35 : Hid (∀ (n : Int) (W : World), LF w A c pl dry W → RdStore W s → Calls Try.prog 35 #[.agg #[.slice A pl.length c, .int .i64 dry], storeVal s, .agg #[.int .i64 7, .int .i64 0, .int .i64 n, .string nm, .string ⟨#[]⟩, .int .i64 0, .int .i64 0, .int .i64 0, .int .i64 0]] W (DoOut (doP pl dry s (useC nm n)) W)) := fun n W hW hR => do_any A c pl dry s (useC nm n) W (h.below hW.below) hR hu hwl hh hnms (show noName.size ≤ 140737488351232 by decide) rfl
        obtain ⟨na, hna⟩ : ∃ na : Int, na = 1 + (ya : Int) := ⟨_, rfl⟩
        obtain ⟨nb, hnb⟩ : ∃ nb : Int, nb = 1 + (za : Int) := ⟨_, rfl⟩
        have na1 : 1 ≤ na ∧ na ≤ 20 := by omega
        have nb1 : 1 ≤ nb ∧ nb ≤ 20 := by omega
        have hwab : IntKind.i64.wrap (na + nb) = na + nb := IntWalk.i64_in _ (by omega)
        have hlaw : Hid ((doP pl dry s (useC nm (na + nb))).1 = 0 → _) := fun e => use_law hck na1.1 nb1.1 e
        have hoks : Hid ((doP pl dry s (useC nm na)).1 = 0 → checkS pl dry (doP pl dry s (useC nm na)).2 = 0) := fun e => (do_ok e).2.1
        obtain ⟨D0, hD0⟩ : ∃ r, r = doP pl dry s (useC nm (na + nb)) := ⟨_, rfl⟩
        obtain ⟨D1, hD1⟩ : ∃ r, r = doP pl dry s (useC nm na) := ⟨_, rfl⟩
        rw [← hD0, ← hD1] at hlaw
        rw [← hD1] at hoks
        have c350 := c35.out (na + nb) wn hXn.out hrn.out
        rw [← hD0] at c350
        replace c350 := Lib.hid c350
        clear e1 e2 e3 hrn'
        go_upto_region 8 with fail
        rw [← hna, ← hnb]
        replace hna := Lib.hid hna
        replace hnb := Lib.hid hnb
        replace hD0 := Lib.hid hD0
        replace hD1 := Lib.hid hD1
        replace hu := Lib.hid hu
        replace hwl := Lib.hid hwl
        replace hh := Lib.hid hh
        obtain ⟨m0, m1, m2, m3, m4, m5⟩ := six_cells hxn
        obtain ⟨k0, k1⟩ := cells2 hXn.out.farm
        replace hxn := Lib.hid hxn
        go_wp2_with fail
        go_at_call 35
        (with_reducible refine c350.out.mono ?_)
        rintro e w5 ⟨t, rfl, hst, hrt, hb5, _⟩
        have hX5 := Lib.hid (hXn.out.later hb5)
        have hx5 := (hb5.block bs (Array.getElem?_eq_some_iff.1 hxn.out).1).trans hxn.out
        have hr5 := hrn.out.below hb5
        obtain ⟨e0, he0⟩ : ∃ e0, e0 = D0.1 := ⟨_, rfl⟩
        rw [← he0]
        replace he0 := Lib.hid he0
        replace hst := Lib.hid hst
        clear m0 m1 m2 m3 m4 m5 k0 k1 hb5 hxn hrn c350
        go_upto_region 9 with fail
        obtain ⟨wt, hwt⟩ : ∃ x, x = w5.alloc (.cells (storeCells t) 43) := ⟨_, rfl⟩
        obtain ⟨bt, hbt⟩ : ∃ x, x = w5.heap.size := ⟨_, rfl⟩
        rw [← hwt, ← hbt]
        have hbw : Below w5.heap.size w5 wt := by rw [hwt]; exact (Below.refl _ w5).alloc (Nat.le_refl _) _
        have hxt : wt.heap[bt]? = some (.cells (storeCells t) 43 (0, 0)) := by rw [hwt, hbt]; exact heap_new _ _ _ rfl
        have hXt := Lib.hid (hX5.out.later hbw)
        have hrt' := hrt.below hbw
        have hrs' := hr5.below hbw
        have hxs' := (hbw.block bs (Array.getElem?_eq_some_iff.1 hx5).1).trans hx5
        have hgt : Hid (w.heap.size + 1 ≤ bt) := by unfold Hid; rw [hbt]; exact hX5.out.size
        obtain ⟨m0, m1, m2, m3, m4, m5⟩ := six_cells hxs'
        obtain ⟨k0, k1⟩ := cells2 hXt.out.farm
        clear hbw hrt hr5 hx5
        replace hwt := Lib.hid hwt
        replace hbt := Lib.hid hbt
        replace hxs' := Lib.hid hxs'
        have c351 := c35.out na wt hXt.out hrs'
        rw [← hD1.out] at c351
        replace c351 := Lib.hid c351
        go_wp2_with fail
        go_at_call 35
        (with_reducible refine c351.out.mono ?_)
        rintro e w6 ⟨u, rfl, hsu, hru, hb6, _⟩
        have hX6 := Lib.hid (hXt.out.later hb6)
        have hx6 := (hb6.block bt (Array.getElem?_eq_some_iff.1 hxt).1).trans hxt
        have hr6 := hrt'.below hb6
        obtain ⟨e1, he1⟩ : ∃ e1, e1 = D1.1 := ⟨_, rfl⟩
        rw [← he1]
        replace he1 := Lib.hid he1
        replace hsu := Lib.hid hsu
        clear m0 m1 m2 m3 m4 m5 k0 k1 hb6 hxt hrt' hrs' c351 c35
        go_upto_region 10 with fail
        obtain ⟨wu, hwu⟩ : ∃ x, x = w6.alloc (.cells (storeCells u) 43) := ⟨_, rfl⟩
        obtain ⟨bu, hbu⟩ : ∃ x, x = w6.heap.size := ⟨_, rfl⟩
        rw [← hwu, ← hbu]
        have hbw : Below w6.heap.size w6 wu := by rw [hwu]; exact (Below.refl _ w6).alloc (Nat.le_refl _) _
        have hxu : wu.heap[bu]? = some (.cells (storeCells u) 43 (0, 0)) := by rw [hwu, hbu]; exact heap_new _ _ _ rfl
        have hXu := Lib.hid (hX6.out.later hbw)
        have hru' := hru.below hbw
        have hrt' := hr6.below hbw
        have hxt := (hbw.block bt (Array.getElem?_eq_some_iff.1 hx6).1).trans hx6
        have hgu : Hid (w.heap.size + 1 ≤ bu) := by unfold Hid; rw [hbu]; exact hX6.out.size
        have hlt6 := (Array.getElem?_eq_some_iff.1 hx6).1
        have hne : Hid (bt ≠ bu) := by unfold Hid; rw [hbu]; omega
        have hb6u := Lib.hid hbw
        have hr6t := Lib.hid hr6
        have hg6 : Hid (w6.heap.size ≤ bu) := by unfold Hid; omega
        clear hbw hru hr6 hx6 hlt6
        replace hwu := Lib.hid hwu
        replace hbu := Lib.hid hbu
        by_cases h0 : e0 = 0
        · have h0b : (e0 != 0) = false := by simpa using h0
          obtain ⟨g1, g2, g3⟩ := hlaw.out (he0.out.symm.trans h0)
          have h1 : e1 = 0 := he1.out.trans g1
          have h1b : (e1 != 0) = false := by simpa using h1
          have hcu : checkS pl dry u = 0 := (hsu.out.checkS pl dry).trans (hoks.out g1)
          obtain ⟨f1, f2, f3⟩ := (check_ok hcu).lens
          obtain ⟨s1, s2⟩ := hsu.out.doP pl dry (useC nm nb)
          have c352 : Calls Try.prog 35 #[.agg #[.slice A pl.length c, .int .i64 dry], storeVal u, .agg #[.int .i64 7, .int .i64 0, .int .i64 nb, .string nm, .string ⟨#[]⟩, .int .i64 0, .int .i64 0, .int .i64 0, .int .i64 0]] wu (DoOut (doP pl dry u (useC nm nb)) wu) :=
            do_any A c pl dry u (useC nm nb) wu (h.below hXu.out.below) hru' (by omega) (by omega) (fun x hx => by have := f3 x hx; omega) hnms (show noName.size ≤ 140737488351232 by decide) rfl
          have hend : Hid (∀ v, SameC v (doP pl dry u (useC nm nb)).2 → SameC t v) := fun v hv => by
            have h3 := hv.trans s2
            rw [g3] at h3
            exact hst.out.trans h3.symm
          have hz2 : (doP pl dry u (useC nm nb)).1 = 0 := s1.trans g2
          obtain ⟨D2, hD2⟩ : ∃ r, r = doP pl dry u (useC nm nb) := ⟨_, rfl⟩
          rw [← hD2] at c352 hend hz2
          replace c352 := Lib.hid c352
          replace hD2 := Lib.hid hD2
          obtain ⟨e2, he2⟩ : ∃ e2, e2 = D2.1 := ⟨_, rfl⟩
          have h2 : e2 = 0 := he2.trans hz2
          replace he2 := Lib.hid he2
          replace h0 := Lib.hid h0
          replace h1 := Lib.hid h1
          replace hz2 := Lib.hid hz2
          clear g1 g2 g3 s1 s2 f1 f2 f3 hru' hlaw hoks hcu
          obtain ⟨m0, m1, m2, m3, m4, m5⟩ := six_cells hxu
          obtain ⟨k0, k1⟩ := cells2 hXu.out.farm
          replace hxt := Lib.hid hxt
          replace hxu := Lib.hid hxu
          replace hrt' := Lib.hid hrt'
          go_wp2_with fail
          go_at_call 35
          (with_reducible refine c352.out.mono ?_)
          rintro e w7 ⟨v, rfl, hsv, hrv, hb7, hfv⟩
          have hX7 := Lib.hid (hXu.out.later hb7)
          have hlu := (Array.getElem?_eq_some_iff.1 hxu.out).1
          have hxu7 := (hb7.block bu hlu).trans hxu.out
          have hxt7 := (hb7.block bt (Array.getElem?_eq_some_iff.1 hxt.out).1).trans hxt.out
          have hrt7 := hrt'.out.below hb7
          rw [← he2.out, h2]
          have hfr : ∀ j, w7.frozen? ⟨bu, j, none⟩ = false := fun j => frozen_of_row w7 _ j _ _ hxu7
          have f0 := hfr 0
          have f1 := hfr 1
          have f2 := hfr 2
          have f3 := hfr 3
          have f4 := hfr 4
          have f5 := hfr 5
          clear hfr m0 m1 m2 m3 m4 m5 k0 k1
          obtain ⟨m0, m1, m2, m3, m4, m5⟩ := six_cells hxu7
          obtain ⟨w8, hw8⟩ : ∃ x, x = putS w7 bu v := ⟨_, rfl⟩
          have hb7' := hb6u.out.trans (hb7.mono hb6u.out.size)
          have hB8 : Below w6.heap.size w6 w8 := by rw [hw8]; exact set6_below _ _ _ _ _ _ hb7' hg6.out
          have hX8 : Hid (LF w A c pl dry w8) := hX6.out.later hB8
          have hrt8 := hr6t.out.below hB8
          have hrv8 : RdStore w8 v := by rw [hw8]; exact hrv.over hfv hlu hxu7 fun k hk => set6_other _ _ _ _ _ _ hk
          have hxu8 : w8.heap[bu]? = some (.cells (storeCells v) 43 (0, 0)) := by rw [hw8]; exact set6 _ _ _ _ _ _ hxu7
          have hxt8 : w8.heap[bt]? = some (.cells (storeCells t) 43 (0, 0)) := by rw [hw8]; exact (set6_other _ _ _ _ _ _ hne.out).trans hxt7
          have c27 := Lib.hid (sameStore_any t v w8 hrt8 hrv8 (hend.out v hsv).sameS)
          replace hxu7 := Lib.hid hxu7
          clear hrt8 hrv8 hrv hfv hrt7 hsv hb7 hb7' hB8 c352
          go_upto_region 15 with fail
          unfold putS at hw8
          rw [← hw8]
          clear f0 f1 f2 f3 f4 f5 m0 m1 m2 m3 m4 m5
          replace hw8 := Lib.hid hw8
          obtain ⟨m0, m1, m2, m3, m4, m5⟩ := six_cells hxu8
          obtain ⟨n0, n1, n2, n3, n4, n5⟩ := six_cells hxt8
          replace hxu8 := Lib.hid hxu8
          replace hxt8 := Lib.hid hxt8
          go_wp2_with (first | (go_at_call 27; refine c27.out.mono ?_; rintro e w9 ⟨rfl, hb9⟩; have hX9 := Lib.hid (hX8.out.later hb9)) | (go_at_call 17; refine (lives_any _).mono ?_; rintro e wL ⟨rfl, hbL⟩))
          go_ret
          exact ⟨rfl, (hX9.out.later hbL).below⟩
        · have h0b : (e0 != 0) = true := by simpa using h0
          replace h0 := Lib.hid h0
          replace hxt := Lib.hid hxt
          replace hxu := Lib.hid hxu
          clear hlaw hoks
          go_wp2_with (go_at_call 17; refine (lives_any _).mono ?_; rintro e wL ⟨rfl, hbL⟩)
          go_ret
          exact ⟨rfl, (hXu.out.later hbL).below⟩
end Go.Proofs.Ytpgkhlpepckfgaa
