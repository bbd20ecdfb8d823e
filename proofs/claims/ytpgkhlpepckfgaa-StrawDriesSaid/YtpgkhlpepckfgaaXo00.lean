/-
  The law StrawDries, walked. An argument that came in, opened: the weather as the walks read it.
-/
import Derived.Test.YtpgkhlpepckfgaaXh02
import Derived.Test.YtpgkhlpepckfgaaXm00
set_option linter.all false
set_option linter.unusedVariables false
set_option linter.unusedSimpArgs false
section
namespace Go.Proofs.Ytpgkhlpepckfgaa
open Go.RowKit Go.Lib

/-- What a heap stands in. -/
structure Wthr where
  heap : Int
  days : Int
  rains : Int
  more : Int
  wet : Int
  ra : Option Addr
  rc : Nat
  rates : List Int
abbrev wthrCells (x : Wthr) : Array Value := #[.int .u8 x.heap, .int .u8 x.days, .int .u8 x.rains, .int .u8 x.more, .int .u16 x.wet, .slice x.ra x.rates.length x.rc]
def encB (x : Int) : List Value := [.int .u8 x]
def RdBytes (w : World) (A : Option Addr) (l : List Int) : Prop := FlatRow encB 1 w A l ∧ ∀ x ∈ l, 0 ≤ x ∧ x ≤ 255
theorem RdBytes.below {w w1 : World} {A : Option Addr} {l : List Int} (h : RdBytes w A l) (hb : Below w.heap.size w w1) : RdBytes w1 A l := ⟨FlatRow.below h.1 hb, h.2⟩
structure WellW (w : World) (x : Wthr) : Prop where
  heap : 0 ≤ x.heap ∧ x.heap ≤ 255
  days : 0 ≤ x.days ∧ x.days ≤ 255
  rains : 0 ≤ x.rains ∧ x.rains ≤ 255
  more : 0 ≤ x.more ∧ x.more ≤ 255
  wet : 0 ≤ x.wet ∧ x.wet ≤ 65535
  rates : RdBytes w x.ra x.rates
/-- The farm and the weather. -/
structure LWx (w : World) (A : Option Addr) (c : Nat) (pl : List Plot) (dry : Int) (x : Wthr) (W : World) : Prop where
  below : Below w.heap.size w W
  farm : W.heap[w.heap.size]? = some (.cells #[.slice A pl.length c, .int .i64 dry] 24 (0, 0))
  wthr : W.heap[w.heap.size + 1]? = some (.cells (wthrCells x) 81 (0, 0))
  size : w.heap.size + 2 ≤ W.heap.size
section
variable {w : World} {A : Option Addr} {c : Nat} {pl : List Plot} {dry : Int} {x : Wthr} {W W' : World}
theorem LWx.make : LWx w A c pl dry x ((w.alloc (.cells #[.slice A pl.length c, .int .i64 dry] 24)).alloc (.cells (wthrCells x) 81)) :=
  ⟨((Below.refl _ w).alloc (Nat.le_refl _) _).alloc (by simp) _, heap_old _ _ _ _ (heap_new _ _ _ rfl), heap_new _ _ _ (by simp), by simp⟩
theorem LWx.later (h : LWx w A c pl dry x W) (hb : Below W.heap.size W W') : LWx w A c pl dry x W' := by
  have hz := h.size
  exact ⟨h.below.trans (hb.mono h.below.size), (hb.block _ (by omega)).trans h.farm, (hb.block _ (by omega)).trans h.wthr, Nat.le_trans hz hb.size⟩
theorem LWx.cells (h : LWx w A c pl dry x W) : W.cell? ⟨w.heap.size + 1, 0, none⟩ = some (.int .u8 x.heap) ∧ W.cell? ⟨w.heap.size + 1, 1, none⟩ = some (.int .u8 x.days) ∧ W.cell? ⟨w.heap.size + 1, 2, none⟩ = some (.int .u8 x.rains) ∧ W.cell? ⟨w.heap.size + 1, 3, none⟩ = some (.int .u8 x.more) ∧ W.cell? ⟨w.heap.size + 1, 4, none⟩ = some (.int .u16 x.wet) ∧ W.cell? ⟨w.heap.size + 1, 5, none⟩ = some (.slice x.ra x.rates.length x.rc) := by
  have := h.wthr
  refine ⟨?_, ?_, ?_, ?_, ?_, ?_⟩ <;> simp [World.cell?, this]
end

/-- How wet a heap is after i days and rains, of n days. -/
structure WetB (lo hi : Int) (n i : Nat) (v : Int) : Prop where
  days : i ≤ n → lo - 20 * (i : Int) ≤ v ∧ v ≤ hi - 10 * (i : Int)
  rains : n ≤ i → lo - 20 * (n : Int) + 5 * ((i : Int) - n) ≤ v ∧ v ≤ hi - 10 * (n : Int) + 15 * ((i : Int) - n)
theorem WetB.start {lo hi v : Int} {n : Nat} (h1 : lo ≤ v) (h2 : v ≤ hi) : WetB lo hi n 0 v := ⟨fun _ => by omega, fun _ => by omega⟩
theorem WetB.range {lo hi v : Int} {n i : Nat} (h : WetB lo hi n i v) (hn : n ≤ 60) (hi1 : i ≤ 80) (hl : 0 ≤ lo ∧ hi ≤ 1000) : -2000 ≤ v ∧ v ≤ 3000 := by
  rcases Nat.le_total i n with h1 | h1
  · have := h.days h1; omega
  · have := h.rains h1; omega
theorem WetB.dryer {lo hi v v' : Int} {n i : Nat} (h : WetB lo hi n i v) (hi1 : i < n) (h1 : v - 20 ≤ v') (h2 : v' ≤ v - 10) : WetB lo hi n (i + 1) v' := by
  have := h.days (by omega)
  exact ⟨fun _ => by omega, fun _ => by omega⟩
theorem WetB.wetter {lo hi v v' : Int} {n i : Nat} (h : WetB lo hi n i v) (hi1 : n ≤ i) (h1 : v + 5 ≤ v') (h2 : v' ≤ v + 15) : WetB lo hi n (i + 1) v' := by
  have := h.rains (by omega)
  exact ⟨fun _ => by omega, fun _ => by omega⟩

set_option maxHeartbeats 4000000 in
set_option maxRecDepth 100000 in
theorem dries_any (A : Option Addr) (c : Nat) (pl : List Plot) (dry : Int) (B : Option Addr) (cb : Nat) (l : List Chore) (x : Wthr) (w : World) (h : RdPlots w A pl) (hl : RdChores w B l) (hx : WellW w x) :
    Calls Try.prog 11 #[.agg #[.slice A pl.length c, .int .i64 dry], .slice B l.length cb, .agg (wthrCells x)] w fun e w' => e = .returned (.bool true) ∧ Below w.heap.size w w' := by
  obtain ⟨W0, hW0⟩ : ∃ W0, W0 = ((w.alloc (.cells #[.slice A pl.length c, .int .i64 dry] 24)).alloc (.cells (wthrCells x) 81)) := ⟨_, rfl⟩
  have hX0 : Hid (LWx w A c pl dry x W0) := by rw [hW0]; exact LWx.make
  obtain ⟨p0, p1⟩ := cells2 hX0.out.farm
  have hrl := hx.rates.1.1
  obtain ⟨x1, x2, x3, x4, x5, x6⟩ := hx
  go_enter Try.func11, Try.ntmps11
  go_upto_region 1 with fail
  rw [← hW0]
  replace hW0 := Lib.hid hW0
  by_cases hg : 40 < l.length ∨ 200 < x.rates.length
  · by_cases h40 : 40 < l.length
    all_goals
      by_cases h200 : 200 < x.rates.length
    all_goals try (exfalso; omega)
    all_goals
      clear hg
      go_wp2_with (first | (go_at_call 16; refine (great_any _ _ pl _ _ (h.below hX0.out.below)).mono ?_; rintro e w1 ⟨⟨b, rfl, hgr⟩, hb1⟩; have hX1 := Lib.hid (hX0.out.later hb1)) | (go_at_call 39; refine (long_any _ _ l _ (hl.below hX1.out.below)).mono ?_; rintro e w2 ⟨⟨b2, rfl, hlg⟩, hb2⟩; have hX2 := Lib.hid (hX1.out.later hb2); obtain ⟨g0, g1, g2, g3, g4, g5⟩ := hX2.out.cells) | (go_at_call 17; refine (lives_any _).mono ?_; rintro e wL ⟨rfl, hbL⟩))
    all_goals go_ret
    all_goals first
      | exact ⟨rfl, (hX2.out.later hbL).below⟩
      | exact ⟨rfl, (hX1.out.later hbL).below⟩
  · have h40 : ¬ 40 < l.length := by omega
    have h200 : ¬ 200 < x.rates.length := by omega
    clear hg
    have c42 : Hid (∀ W, LWx w A c pl dry x W → Calls Try.prog 42 #[.agg #[.slice A pl.length c, .int .i64 dry], .slice B l.length cb] W (AfterOut pl dry W)) := fun W hW => after_any A c pl dry B cb l W (h.below hW.below) (hl.below hW.below) (by omega)
    go_wp2_with (first | (go_at_call 16; refine (great_any _ _ pl _ _ (h.below hX0.out.below)).mono ?_; rintro e w1 ⟨⟨b, rfl, hgr⟩, hb1⟩; have hX1 := Lib.hid (hX0.out.later hb1)) | (go_at_call 39; refine (long_any _ _ l _ (hl.below hX1.out.below)).mono ?_; rintro e w2 ⟨⟨b2, rfl, hlg⟩, hb2⟩; have hX2 := Lib.hid (hX1.out.later hb2); obtain ⟨k0, k1⟩ := cells2 hX2.out.farm; obtain ⟨g0, g1, g2, g3, g4, g5⟩ := hX2.out.cells) | (go_at_call 17; refine (lives_any _).mono ?_; rintro e wL ⟨rfl, hbL⟩))
    · go_ret
      exact ⟨rfl, (hX1.out.later hbL).below⟩
    · go_ret
      exact ⟨rfl, (hX2.out.later hbL).below⟩
    go_at_call 42
    (with_reducible refine (c42.out _ hX2.out).mono ?_)
    rintro e w3 ⟨s, ok, rfl, hok, hb3⟩
    have hX3 := Lib.hid (hX2.out.later hb3)
    replace hok := Lib.hid hok
    clear p0 p1 k0 k1 g0 g1 g2 g3 g4 g5 hb1 hb2 hb3 c42 hgr hlg
    go_upto_region 4 with fail
    obtain ⟨ws, hws⟩ : ∃ x, x = w3.alloc (.cells (storeCells s) 43) := ⟨_, rfl⟩
    obtain ⟨bs, hbs⟩ : ∃ x, x = w3.heap.size := ⟨_, rfl⟩
    rw [← hws, ← hbs]
    have hbw : Below w3.heap.size w3 ws := by rw [hws]; exact (Below.refl _ w3).alloc (Nat.le_refl _) _
    have hxs : ws.heap[bs]? = some (.cells (storeCells s) 43 (0, 0)) := by rw [hws, hbs]; exact heap_new _ _ _ rfl
    have hXs := Lib.hid (hX3.out.later hbw)
    obtain ⟨m0, m1, m2, m3, m4, m5⟩ := six_cells hxs
    cases ok with
    | false =>
      replace hws := Lib.hid hws
      replace hbs := Lib.hid hbs
      replace hxs := Lib.hid hxs
      go_wp2_with (go_at_call 17; refine (lives_any _).mono ?_; rintro e wL ⟨rfl, hbL⟩)
      go_ret
      exact ⟨rfl, (hXs.out.later hbL).below⟩
    | true =>
      obtain ⟨hck, hrs3⟩ := hok.out rfl
      have hrs := hrs3.below hbw
      clear hrs3 hok hbw
      replace hws := Lib.hid hws
      replace hbs := Lib.hid hbs
      have hhl := hrs.heaps.1.1
      by_cases hz0 : s.heaps.length = 0
      · replace hxs := Lib.hid hxs
        go_wp2_with (go_at_call 17; refine (lives_any _).mono ?_; rintro e wL ⟨rfl, hbL⟩)
        go_ret
        exact ⟨rfl, (hXs.out.later hbL).below⟩
      · obtain ⟨q, hq, hqn⟩ : ∃ q : Nat, x.heap.tmod (s.heaps.length : Int) = (q : Int) ∧ q < s.heaps.length := by
          have h1 := Int.tmod_nonneg (s.heaps.length : Int) x1.1
          have h2 := Int.tmod_lt_of_pos x.heap (b := (s.heaps.length : Int)) (by omega)
          exact ⟨(x.heap.tmod (s.heaps.length : Int)).toNat, by omega, by omega⟩
        obtain ⟨ad, hA, y0, y1, y2, y3, y4, y5, y6⟩ := (FlatRow.below hrs.heaps.1 (Below.refl _ ws)).at7 hqn rfl
        obtain ⟨H, hH⟩ : ∃ H, H = s.heaps[q] := ⟨_, rfl⟩
        rw [← hH] at y0 y1 y2 y3 y4 y5 y6
        rw [hA] at m3
        replace hH := Lib.hid hH
        replace hA := Lib.hid hA
        have hwx : IntKind.i64.wrap x.heap = x.heap := IntWalk.i64_in _ (by omega)
        have hwq : IntKind.i64.wrap (q : Int) = q := IntWalk.i64_in _ (by omega)
        obtain ⟨g0, g1, g2, g3, g4, g5⟩ := hXs.out.cells
        replace hxs := Lib.hid hxs
        obtain ⟨dn, hd, hd60⟩ : ∃ dn : Nat, x.days.tmod 61 = (dn : Int) ∧ dn ≤ 60 := by
          have h1 := Int.tmod_nonneg (61 : Int) x2.1
          have h2 := Int.tmod_lt_of_pos x.days (b := (61 : Int)) (by omega)
          exact ⟨(x.days.tmod 61).toNat, by omega, by omega⟩
        obtain ⟨rn, hrn, hr20⟩ : ∃ rn : Nat, x.rains.tmod 21 = (rn : Int) ∧ rn ≤ 20 := by
          have h1 := Int.tmod_nonneg (21 : Int) x3.1
          have h2 := Int.tmod_lt_of_pos x.rains (b := (21 : Int)) (by omega)
          exact ⟨(x.rains.tmod 21).toNat, by omega, by omega⟩
        obtain ⟨mn, hmn, hm9⟩ : ∃ mn : Nat, x.more.tmod 10 = (mn : Int) ∧ mn ≤ 9 := by
          have h1 := Int.tmod_nonneg (10 : Int) x4.1
          have h2 := Int.tmod_lt_of_pos x.more (b := (10 : Int)) (by omega)
          exact ⟨(x.more.tmod 10).toNat, by omega, by omega⟩
        have hwd : IntKind.i64.wrap x.days = x.days := IntWalk.i64_in _ (by omega)
        have hwr : IntKind.i64.wrap x.rains = x.rains := IntWalk.i64_in _ (by omega)
        have hwm : IntKind.i64.wrap x.more = x.more := IntWalk.i64_in _ (by omega)
        have hwd' : IntKind.i64.wrap (dn : Int) = dn := IntWalk.i64_in _ (by omega)
        have hwr' : IntKind.i64.wrap (rn : Int) = rn := IntWalk.i64_in _ (by omega)
        have hwm' : IntKind.i64.wrap (mn : Int) = mn := IntWalk.i64_in _ (by omega)
        go_upto_region 8 with fail
        obtain ⟨wh, hwh⟩ : ∃ x, x = ws.alloc (.cells (hcells H) 77) := ⟨_, rfl⟩
        obtain ⟨bh, hbh⟩ : ∃ x, x = ws.heap.size := ⟨_, rfl⟩
        unfold hcells at hwh
        rw [← hwh, ← hbh]
        have hbw : Below ws.heap.size ws wh := by rw [hwh]; exact (Below.refl _ ws).alloc (Nat.le_refl _) _
        have hxh : wh.heap[bh]? = some (.cells (hcells H) 77 (0, 0)) := by rw [hwh, hbh]; exact heap_new _ _ _ rfl
        have hSh : Hid (HasS wh bs s) := ⟨(hbw.block bs (Array.getElem?_eq_some_iff.1 hxs.out).1).trans hxs.out, hrs.below hbw⟩
        have hXh := Lib.hid (hXs.out.later hbw)
        clear m0 m1 m2 m3 m4 m5 y0 y1 y2 y3 y4 y5 y6 g0 g1 g2 g3 g4 g5 hbw hrs hxs
        replace hwh := Lib.hid hwh
        replace hbh := Lib.hid hbh
        replace hxh := Lib.hid hxh
        obtain ⟨g0, g1, g2, g3, g4, g5⟩ := hXh.out.cells
        go_big_quiet (fail)
        obtain ⟨wn, hwn⟩ : ∃ x, x = wh.drewN nq := ⟨_, rfl⟩
        have hbn : Below wh.heap.size wh wn := by rw [hwn]; exact below_drewN_ _ _
        have hxn : wn.heap[bh]? = some (.cells (hcells H) 77 (0, 0)) := (hbn.block bh (Array.getElem?_eq_some_iff.1 hxh.out).1).trans hxh.out
        have hSn := Lib.hid (hSh.out.later hbn)
        have hXn := Lib.hid (hXh.out.later hbn)
        rw [← hwn]
        clear g0 g1 g2 g3 g4 g5 hbn hwd hwr hwm hwd' hwr' hwm'
        replace hwn := Lib.hid hwn
        replace hd := Lib.hid hd
        replace hrn := Lib.hid hrn
        replace hmn := Lib.hid hmn
        replace hq := Lib.hid hq
        have hw1 : IntKind.i64.wrap ((rn : Int) - (mn : Int)) = (rn : Int) - (mn : Int) := IntWalk.i64_in _ (by omega)
        have hw2 : IntKind.i64.wrap ((rn : Int) + (mn : Int)) = (rn : Int) + (mn : Int) := IntWalk.i64_in _ (by omega)
        obtain ⟨m0, m1, m2, m3, m4, m5⟩ := six_cells hSn.out.cells
        obtain ⟨k0, k1⟩ := cells2 hXn.out.farm
        obtain ⟨y0, y1, y2, y3, y4, y5, y6⟩ := seven_cells hxn
        replace hxn := Lib.hid hxn
        go_wp2_with fail
        go_at_call 35
        have hHg : H = s.heaps.getD q default := by rw [getD_lt _ hqn]; exact hH.out
        obtain ⟨e1, e2, e3⟩ := (check_ok hck).lens
        have hnms : H.name.size ≤ 140737488351232 := by rw [hH.out]; exact (hSn.out.rd.heaps.2 _ (List.getElem_mem hqn)).2
        have hlaw := dry_law (pl := pl) (dry := dry) (s := s) (k := q) (nm := H.name) (days := (dn : Int)) (lo := max 0 ((rn : Int) - (mn : Int))) (hi := (rn : Int) + (mn : Int)) hck hqn (by rw [hHg]) (by omega) (by omega)
        rw [← hHg] at hlaw
        obtain ⟨D, hD⟩ : ∃ r, r = doP pl dry s (dryC H.name (dn : Int) (max 0 ((rn : Int) - (mn : Int))) ((rn : Int) + (mn : Int))) := ⟨_, rfl⟩
        have c35 : Calls Try.prog 35 #[.agg #[.slice A pl.length c, .int .i64 dry], storeVal s, .agg #[.int .i64 3, .int .i64 0, .int .i64 0, .string H.name, .string ⟨#[]⟩, .int .i64 (dn : Int), .int .i64 0, .int .i64 (max 0 ((rn : Int) - (mn : Int))), .int .i64 ((rn : Int) + (mn : Int))]] wn (DoOut D wn) :=
          hD ▸ do_any A c pl dry s (dryC H.name (dn : Int) (max 0 ((rn : Int) - (mn : Int))) ((rn : Int) + (mn : Int))) wn (h.below hXn.out.below) hSn.out.rd (by omega) (by omega) (fun x hx => by have := e3 x hx; omega) hnms (show noName.size ≤ 140737488351232 by decide) rfl
        rw [← hD] at hlaw
        have hwet := ((check_ok hck).heaps _ (getD_memH hqn)).wet
        rw [← hHg] at hwet
        (with_reducible refine c35.mono ?_)
        rintro e w5 ⟨t, rfl, hst, hrt, hb5, _⟩
        have hX5 := Lib.hid (hXn.out.later hb5)
        have hx5 := (hb5.block bh (Array.getElem?_eq_some_iff.1 hxn.out).1).trans hxn.out
        obtain ⟨e0, he0⟩ : ∃ e0, e0 = D.1 := ⟨_, rfl⟩
        rw [← he0]
        have hb5' := Lib.hid hb5
        replace he0 := Lib.hid he0
        replace hst := Lib.hid hst
        replace hlaw := Lib.hid hlaw
        replace hHg := Lib.hid hHg
        clear m0 m1 m2 m3 m4 m5 k0 k1 y0 y1 y2 y3 y4 y5 y6 hb5 hD c35 e1 e2 e3 hw1 hw2
        go_upto_region 10 with fail
        obtain ⟨wt, hwt⟩ : ∃ x, x = w5.alloc (.cells (storeCells t) 43) := ⟨_, rfl⟩
        obtain ⟨bt, hbt⟩ : ∃ x, x = w5.heap.size := ⟨_, rfl⟩
        rw [← hwt, ← hbt]
        have hbw : Below w5.heap.size w5 wt := by rw [hwt]; exact (Below.refl _ w5).alloc (Nat.le_refl _) _
        have hT : Hid (HasS wt bt t) := ⟨by rw [hwt, hbt]; exact heap_new _ _ _ rfl, hrt.below hbw⟩
        have hXt := Lib.hid (hX5.out.later hbw)
        have hxt := (hbw.block bh (Array.getElem?_eq_some_iff.1 hx5).1).trans hx5
        have hbig := Lib.hid (hXt.out)
        clear hrt hbw hx5 hb5'
        replace hwt := Lib.hid hwt
        replace hbt := Lib.hid hbt
        obtain ⟨y0, y1, y2, y3, y4, y5, y6⟩ := seven_cells hxt
        replace hxt := Lib.hid hxt
        by_cases h3 : H.stage = 3
        · have h3b : (H.stage == 3) = true := by simpa using h3
          have he : e0 = 8 := by rw [he0.out, hlaw.out, if_pos h3]
          subst he
          replace h3 := Lib.hid h3
          go_wp2_with (go_at_call 17; refine (lives_any _).mono ?_; rintro e wL ⟨rfl, hbL⟩)
          go_ret
          exact ⟨rfl, (hXt.out.later hbL).below⟩
        · have h3b : (H.stage == 3) = false := by simpa using h3
          have hDe := hlaw.out
          rw [if_neg h3] at hDe
          have he : e0 = 0 := by rw [he0.out, hDe]
          subst he
          replace h3 := Lib.hid h3
          have hS2 := hst.out
          rw [hDe] at hS2
          have htl : t.heaps.length = s.heaps.length := by have := hS2.len; simpa using this
          have hqt : q < t.heaps.length := by omega
          have htw : t.heaps[q].wet = ⟨clampP (H.wet.lo - 20 * (dn : Int) + 5 * max 0 ((rn : Int) - (mn : Int))), clampP (H.wet.hi - 10 * (dn : Int) + 15 * ((rn : Int) + (mn : Int)))⟩ := by
            have := (hS2.fields q).2.2.2.2.2
            rw [getD_lt _ hqt] at this
            rw [this]
            dsimp only
            rw [getD_set _ _ _ _ _ hqn, if_pos rfl]
            rfl
          obtain ⟨lo, hlo⟩ : ∃ z, z = H.wet.lo := ⟨_, rfl⟩
          obtain ⟨hi, hhi⟩ : ∃ z, z = H.wet.hi := ⟨_, rfl⟩
          rw [← hlo] at y5 hwet htw
          rw [← hhi] at y6 hwet htw
          replace hlo := Lib.hid hlo
          replace hhi := Lib.hid hhi
          replace htw := Lib.hid htw
          clear hDe hS2
          obtain ⟨m0, m1, m2, m3, m4, m5⟩ := six_cells hT.out.cells
          obtain ⟨g0, g1, g2, g3, g4, g5⟩ := hXt.out.cells
          have hle : lo ≤ hi := hwet.2.1
          obtain ⟨wv, hwv, hwv1⟩ : ∃ wv : Nat, x.wet.tmod (hi - lo + 1) = (wv : Int) ∧ (wv : Int) ≤ hi - lo := by
            have h1 := Int.tmod_nonneg (hi - lo + 1) x5.1
            have h2 := Int.tmod_lt_of_pos x.wet (b := (hi - lo + 1)) (by omega)
            exact ⟨(x.wet.tmod (hi - lo + 1)).toNat, by omega, by omega⟩
          have hw1 : IntKind.i64.wrap (hi - lo) = hi - lo := IntWalk.i64_in _ (by omega)
          have hw2 : IntKind.i64.wrap (hi - lo + 1) = hi - lo + 1 := IntWalk.i64_in _ (by omega)
          have hw3 : IntKind.i64.wrap x.wet = x.wet := IntWalk.i64_in _ (by omega)
          have hw4 : IntKind.i64.wrap (wv : Int) = wv := IntWalk.i64_in _ (by omega)
          have hw5 : IntKind.i64.wrap (lo + (wv : Int)) = lo + wv := IntWalk.i64_in _ (by omega)
          have hnz : (hi - lo + 1 == 0) = false := by have : hi - lo + 1 ≠ 0 := by omega
                                                      simpa using this
          go_upto_region 14 with fail
          go_big_quiet (fail)
          obtain ⟨wm, hwm⟩ : ∃ x, x = wt.drewN nq := ⟨_, rfl⟩
          have hbm : Below wt.heap.size wt wm := by rw [hwm]; exact below_drewN_ _ _
          have hTm := Lib.hid (hT.out.later hbm)
          have hXm := Lib.hid (hXt.out.later hbm)
          rw [← hwm]
          clear hbm hw1 hw2 hw3 hw4 hw5 hnz m0 m1 m2 m3 m4 m5 g0 g1 g2 g3 g4 g5 y0 y1 y2 y3 y4 y5 y6
          replace hwm := Lib.hid hwm
          replace hwv := Lib.hid hwv
          go_wp2_with fail
          have hrb := x6
          go_loopw [16, 17] (fun a b wr => ∃ (v : Int) (i : Nat), a = .int .i64 v ∧ b = .int .i64 i ∧ i ≤ dn + rn ∧ Hid (WetB lo hi dn i v) ∧ Hid (Below wm.heap.size wm wr)) (fun _ b _ => dn + rn - (intOf b).toNat)
          case atStart => exact ⟨_, 0, rfl, rfl, Nat.zero_le _, WetB.start (by omega) (by omega), Below.refl _ wm⟩
          case round =>
            obtain ⟨v, i, rfl, rfl, hi1, hB, hbl⟩ := hrel
            obtain ⟨b1, b2⟩ := hB.out.range (by omega) (by omega) (by omega)
            have hwdr : IntKind.i64.wrap ((dn : Int) + (rn : Int)) = (dn : Int) + rn := IntWalk.i64_in _ (by omega)
            have hXr := Lib.hid (hXm.out.later hbl.out)
            obtain ⟨g0, g1, g2, g3, g4, g5⟩ := hXr.out.cells
            by_cases hlt : i < dn + rn
            · by_cases hir : i < x.rates.length
              · have hrr := hrb.below hXr.out.below
                obtain ⟨ra, hra, z0⟩ := FlatRow.at1 hrr.1 hir rfl
                obtain ⟨r1, r2⟩ := hrr.2 _ (List.getElem_mem hir)
                obtain ⟨rb, hrbe⟩ : ∃ rb, rb = x.rates[i] := ⟨_, rfl⟩
                rw [← hrbe] at z0 r1 r2
                rw [hra] at g5
                replace hrbe := Lib.hid hrbe
                replace hra := Lib.hid hra
                obtain ⟨rm, hrm, hrm10⟩ : ∃ rm : Nat, rb.tmod 11 = (rm : Int) ∧ rm ≤ 10 := by
                  have h1 := Int.tmod_nonneg (11 : Int) r1
                  have h2 := Int.tmod_lt_of_pos rb (b := (11 : Int)) (by omega)
                  exact ⟨(rb.tmod 11).toNat, by omega, by omega⟩
                have hwb : IntKind.i64.wrap rb = rb := IntWalk.i64_in _ (by omega)
                have hwb' : IntKind.i64.wrap (rm : Int) = rm := IntWalk.i64_in _ (by omega)
                clear hrr
                by_cases hdd : i < dn
                · go_wp2
                  exact ⟨⟨_, i + 1, rfl, by go_num, by omega, hB.out.dryer hdd (by omega) (by omega), hbl⟩, by simp only [intOf]; omega⟩
                · go_wp2
                  exact ⟨⟨_, i + 1, rfl, by go_num, by omega, hB.out.wetter (by omega) (by omega) (by omega), hbl⟩, by simp only [intOf]; omega⟩
              · by_cases hdd : i < dn
                · go_wp2
                  exact ⟨⟨_, i + 1, rfl, by go_num, by omega, hB.out.dryer hdd (by omega) (by omega), hbl⟩, by simp only [intOf]; omega⟩
                · go_wp2
                  exact ⟨⟨_, i + 1, rfl, by go_num, by omega, hB.out.wetter (by omega) (by omega) (by omega), hbl⟩, by simp only [intOf]; omega⟩
            · by_cases hv0 : v < 0
              · go_wp2_with (go_at_call 17; refine (lives_any _).mono ?_; rintro e wL ⟨rfl, hbL⟩)
                go_ret
                exact ⟨rfl, (hXr.out.later hbL).below⟩
              · by_cases hv1 : 1000 < v
                · go_wp2_with (go_at_call 17; refine (lives_any _).mono ?_; rintro e wL ⟨rfl, hbL⟩)
                  go_ret
                  exact ⟨rfl, (hXr.out.later hbL).below⟩
                · have hTr := Lib.hid (hTm.out.later hbl.out)
                  obtain ⟨m0, m1, m2, m3, m4, m5⟩ := six_cells hTr.out.cells
                  obtain ⟨ad', hA', y0, y1, y2, y3, y4, y5, y6⟩ := hTr.out.rd.heaps.1.at7 hqt rfl
                  rw [htw.out] at y5 y6
                  have hB2 := hB.out.rains (by omega)
                  have hie : (i : Int) = (dn : Int) + rn := by omega
                  obtain ⟨zl, hzl, hzl1⟩ : ∃ zl, zl = clampP (lo - 20 * (dn : Int) + 5 * max 0 ((rn : Int) - (mn : Int))) ∧ zl ≤ v := ⟨_, rfl, by unfold clampP; omega⟩
                  obtain ⟨zh, hzh, hzh1⟩ : ∃ zh, zh = clampP (hi - 10 * (dn : Int) + 15 * ((rn : Int) + (mn : Int))) ∧ v ≤ zh := ⟨_, rfl, by unfold clampP; omega⟩
                  rw [← hzl] at y5
                  rw [← hzh] at y6
                  rw [hA'] at m3
                  replace hzl := Lib.hid hzl
                  replace hzh := Lib.hid hzh
                  replace hA' := Lib.hid hA'
                  replace hie := Lib.hid hie
                  go_wp2_with (go_at_call 17; refine (lives_any _).mono ?_; rintro e wL ⟨rfl, hbL⟩)
                  go_ret
                  exact ⟨rfl, (hXr.out.later hbL).below⟩
end Go.Proofs.Ytpgkhlpepckfgaa
end
section
namespace Go.Proofs.Ytpgkhlpepckfgaa
open Go.RowKit Go.Lib Go.ChangeShapes Go.WideShapes
section
variable {H : Type} {enc : TypeId × Value → H} {w : World} {base : Nat} {spare : Nat → Bool} {held : Bool}
theorem cells81 : Try.prog.cellsOf 81 = 6 := by kernel_rfl
theorem cells79 : Try.prog.cellsOf 79 = 1 := by kernel_rfl
theorem cells5 : Try.prog.cellsOf 5 = 1 := by kernel_rfl
theorem trod_u8 {fuel : Nat} {c : List Value} {x : DataW H × List MemPlace} (h : DataW.trod enc Try.prog w base spare held fuel 5 c = some x) : ∃ a : Int, c = [.int .u8 a] ∧ 0 ≤ a ∧ a ≤ 255 := by
  obtain ⟨n, h1, _, h2⟩ := DataW.trod_int Try.underlying5 h
  obtain ⟨h3, h4⟩ := u8_wf h2
  exact ⟨n, h1, h3, h4⟩
set_option maxRecDepth 100000 in
theorem open_bytes {fuel : Nat} {v : Value} {y : DataW H × List MemPlace} (h : DataW.trod enc Try.prog w base spare held fuel 79 [v] = some y) (hs : Small 79 y.1) :
    ∃ A c, ∃ l : List Int, v = .slice A l.length c ∧ RdBytes w A l := by
  obtain ⟨A, c, l, e, hr, hq⟩ := open_flat (Q := fun x : Int => 0 ≤ x ∧ x ≤ 255) Try.underlying79 cells5 (enc' := encB) (fun _ => rfl) (of_decide_eq_true (by kernel_rfl)) (fun n cs x hx hsx => (trod_u8 hx).imp fun i e => ⟨e.1, e.2⟩) h hs
  exact ⟨A, c, l, e, hr, hq⟩
set_option maxRecDepth 100000 in
theorem trod_wthr {n : Nat} {cs : List Value} {x : DataW H × List MemPlace} (h : DataW.trod enc Try.prog w base spare held n 81 cs = some x) (hs : Small 81 x.1) : ∃ a : Wthr, cs = (wthrCells a).toList ∧ WellW w a := by
  obtain ⟨xs, m, _, rfl, hl, hx, hf⟩ := DataW.trod_struct Try.underlying81 h
  rw [cells81] at hl
  match cs, hl with
  | [c0, c1, c2, c3, c4, c5], _ =>
    match xs, hx with
    | [y0, y1, y2, y3, y4, y5], _ =>
      have f0 : DataW.trod enc Try.prog w base spare held m 5 [c0] = some y0 := by have q : DataW.trod enc Try.prog w base spare held m 5 (([c0, c1, c2, c3, c4, c5].drop 0).take (Try.prog.cellsOf 5)) = some y0 := hf 0 _ rfl; rw [cells5] at q; exact q
      have f1 : DataW.trod enc Try.prog w base spare held m 5 [c1] = some y1 := by have q : DataW.trod enc Try.prog w base spare held m 5 (([c0, c1, c2, c3, c4, c5].drop 1).take (Try.prog.cellsOf 5)) = some y1 := hf 1 _ rfl; rw [cells5] at q; exact q
      have f2 : DataW.trod enc Try.prog w base spare held m 5 [c2] = some y2 := by have q : DataW.trod enc Try.prog w base spare held m 5 (([c0, c1, c2, c3, c4, c5].drop 2).take (Try.prog.cellsOf 5)) = some y2 := hf 2 _ rfl; rw [cells5] at q; exact q
      have f3 : DataW.trod enc Try.prog w base spare held m 5 [c3] = some y3 := by have q : DataW.trod enc Try.prog w base spare held m 5 (([c0, c1, c2, c3, c4, c5].drop 3).take (Try.prog.cellsOf 5)) = some y3 := hf 3 _ rfl; rw [cells5] at q; exact q
      have f4 : DataW.trod enc Try.prog w base spare held m 35 [c4] = some y4 := by have q : DataW.trod enc Try.prog w base spare held m 35 (([c0, c1, c2, c3, c4, c5].drop 4).take (Try.prog.cellsOf 35)) = some y4 := hf 4 _ rfl; rw [cells35] at q; exact q
      have f5 : DataW.trod enc Try.prog w base spare held m 79 [c5] = some y5 := by have q : DataW.trod enc Try.prog w base spare held m 79 (([c0, c1, c2, c3, c4, c5].drop 5).take (Try.prog.cellsOf 79)) = some y5 := hf 5 _ rfl; rw [cells79] at q; exact q
      obtain ⟨p0, e0, q0⟩ := trod_u8 f0
      obtain ⟨p1, e1, q1⟩ := trod_u8 f1
      obtain ⟨p2, e2, q2⟩ := trod_u8 f2
      obtain ⟨p3, e3, q3⟩ := trod_u8 f3
      obtain ⟨p4, e4, q4⟩ := trod_u16 f4
      obtain ⟨A, k, l, e5, q5⟩ := open_bytes f5 (small_field Try.underlying81 hs (j := 5) rfl rfl)
      cases e0; cases e1; cases e2; cases e3; subst e4 e5
      exact ⟨⟨p0, p1, p2, p3, p4, A, k, l⟩, rfl, q0, q1, q2, q3, q4, q5⟩
variable {r : Reach} {b0 : Nat} {v : Value} {d : DataW H} {p : List MemPlace}
set_option maxRecDepth 100000 in
/-- The weather, opened. -/
theorem open_wthr (hv : Value.okWide Try.prog w r b0 81 v) (h : DataW.Trod enc Try.prog w base spare held 81 v d p) (hs : Small 81 d) : ∃ a : Wthr, v = .agg (wthrCells a) ∧ WellW w a := by
  simp only [Value.okWide, Try.underlying81] at hv
  obtain ⟨cs, rfl, hsz, _⟩ := hv
  obtain ⟨fuel, hfu⟩ := h
  have hfu' : DataW.trod enc Try.prog w base spare held fuel 81 cs.toList = some (d, p) := by simpa [Value.cells] using hfu
  obtain ⟨a, e, hw⟩ := trod_wthr hfu' hs
  exact ⟨a, congrArg Value.agg (Array.ext' e), hw⟩
end
end Go.Proofs.Ytpgkhlpepckfgaa
end
