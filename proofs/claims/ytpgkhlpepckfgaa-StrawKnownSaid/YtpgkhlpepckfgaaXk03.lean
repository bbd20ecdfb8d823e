/-
  The law StrawKnown, walked.
-/
import Derived.Test.YtpgkhlpepckfgaaXh00
import Derived.Test.YtpgkhlpepckfgaaXh03
import Derived.Test.YtpgkhlpepckfgaaXk00
import Derived.Test.YtpgkhlpepckfgaaXk02
import Derived.Shelf.RegionOpen
set_option linter.all false
set_option linter.unusedVariables false
set_option linter.unusedSimpArgs false
namespace Go.Proofs.Ytpgkhlpepckfgaa
open Go.RowKit Go.Lib

theorem FlatRow.at4k {α : Type} {enc : α → List Value} {w : World} {A : Option Addr} {l : List α} (h : FlatRow enc 4 w A l) {i : Nat} (hi : i < l.length)
    {v0 v1 v2 v3 : Value} (he : enc l[i] = [v0, v1, v2, v3]) : ∃ ad, A = some ad ∧
    w.cell? (ad.add (i * 4)) = some v0 ∧ w.cell? ⟨(ad.add (i * 4)).block, (ad.add (i * 4)).off + 1, none⟩ = some v1 ∧ w.cell? ⟨(ad.add (i * 4)).block, (ad.add (i * 4)).off + 2, none⟩ = some v2 ∧ w.cell? ⟨(ad.add (i * 4)).block, (ad.add (i * 4)).off + 3, none⟩ = some v3 := by
  obtain ⟨ad, e, hc⟩ := h.2 i l[i] (by simp [hi])
  rw [he] at hc
  refine ⟨ad, e, hc 0 _ rfl, ?_, ?_, ?_⟩
  · rw [← addr_field _ _ _ (by omega)]; exact hc _ _ rfl
  · rw [← addr_field _ _ _ (by omega)]; exact hc _ _ rfl
  · rw [← addr_field _ _ _ (by omega)]; exact hc _ _ rfl

set_option maxHeartbeats 4000000 in
set_option maxRecDepth 100000 in
theorem known_any (w : World) : Calls Try.prog 8 #[] w fun e w' => e = .returned (.bool true) ∧ Below w.heap.size w w' := by
  go_enter Try.func8, Try.ntmps8
  go_wp2_with (go_at_call 37; refine (farm_any _).mono ?_; rintro e w1 ⟨A, c, rfl, hpl, hb1⟩)
  obtain ⟨wf, hwf⟩ : ∃ x, x = w1.alloc (.cells #[.slice A 2 c, .int .i64 150] 24) := ⟨_, rfl⟩
  obtain ⟨bf, hbf⟩ : ∃ x, x = w1.heap.size := ⟨_, rfl⟩
  rw [← hwf, ← hbf]
  have hbw : Below w1.heap.size w1 wf := by rw [hwf]; exact (Below.refl _ w1).alloc (Nat.le_refl _) _
  have hxf : Hid (wf.heap[bf]? = some (.cells #[.slice A 2 c, .int .i64 150] 24 (0, 0))) := by unfold Hid; rw [hwf, hbf]; exact heap_new _ _ _ rfl
  have hpf := Lib.hid (hpl.below hbw)
  have hBf := Lib.hid (hb1.trans (hbw.mono hb1.size))
  have hgf : Hid (w.heap.size ≤ bf) := by unfold Hid; rw [hbf]; exact hb1.size
  have hlf := (Array.getElem?_eq_some_iff.1 hxf.out).1
  clear hpl hb1 hbw
  replace hwf := Lib.hid hwf
  replace hbf := Lib.hid hbf
  have c23 : Calls Try.prog 23 #[.agg #[.slice A 2 c, .int .i64 150]] wf (NewOut [fen, hill] 150 wf) := new_any A c [fen, hill] 150 wf hpf.out
  (with_reducible refine c23.mono ?_)
  rintro e w2 ⟨t, rfl, hrt, hst, hb2⟩
  rw [known_check]
  have hsc := Lib.hid (new_same hst)
  have hx2 := (hb2.block bf hlf).trans hxf.out
  have hp2 := hpf.out.below hb2
  have hB2 := hBf.out.trans (hb2.mono hBf.out.size)
  have hz2 := hb2.size
  clear c23 hst hb2 hBf hpf hxf
  go_upto_region 3 with fail
  obtain ⟨ws, hws⟩ : ∃ x, x = w2.alloc (.cells (storeCells t) 43) := ⟨_, rfl⟩
  obtain ⟨bs, hbs⟩ : ∃ x, x = w2.heap.size := ⟨_, rfl⟩
  rw [← hws, ← hbs]
  have hbw : Below w2.heap.size w2 ws := by rw [hws]; exact (Below.refl _ w2).alloc (Nat.le_refl _) _
  have hxs : ws.heap[bs]? = some (.cells (storeCells t) 43 (0, 0)) := by rw [hws, hbs]; exact heap_new _ _ _ rfl
  have hxf : Hid (ws.heap[bf]? = some (.cells #[.slice A 2 c, .int .i64 150] 24 (0, 0))) := (hbw.block bf (by omega)).trans hx2
  have hps := Lib.hid (hp2.below hbw)
  have hrs := Lib.hid (hrt.below hbw)
  have hBs := Lib.hid (hB2.trans (hbw.mono hB2.size))
  have hgs : Hid (w.heap.size ≤ bs ∧ bf < bs) := by have := hgf.out; unfold Hid; rw [hbs]; omega
  have hq2 := Lib.hid hp2
  have hbs2 := Lib.hid hbw
  have hge : Hid (w2.heap.size ≤ bs) := by unfold Hid; omega
  clear hp2 hrt hB2 hbw hx2 hz2
  replace hws := Lib.hid hws
  replace hbs := Lib.hid hbs
  replace hxs := Lib.hid hxs
  go_upto_region 6 with fail
  generalize hwl : ws.alloc _ = wl
  obtain ⟨bl, hbl⟩ : ∃ x, x = ws.heap.size := ⟨_, rfl⟩
  rw [← hbl]
  have hxl : wl.heap[bl]? = some (.cells (knownL.flatMap encChore).toArray 64 (0, 0)) := by rw [← hwl, hbl]; exact heap_new _ _ _ rfl
  have hbw : Below ws.heap.size ws wl := by rw [← hwl]; exact (Below.refl _ ws).alloc (Nat.le_refl _) _
  have hrl : RdChores wl (some ⟨bl, 0, none⟩) knownL := ⟨flatRow_block (enc := encChore) (sz := 9) (l := knownL) (t := 64) (fun _ => rfl) hxl (by decide), known_well⟩
  have hxs' := (hbw.block bs (Array.getElem?_eq_some_iff.1 hxs.out).1).trans hxs.out
  have hxf' := (hbw.block bf (Array.getElem?_eq_some_iff.1 hxf.out).1).trans hxf.out
  have hpl' := hps.out.below hbw
  have hrl' := hrs.out.below hbw
  have hBl := Lib.hid (hBs.out.trans (hbw.mono hBs.out.size))
  have hbl2 := Lib.hid (hbs2.out.trans (hbw.mono hbs2.out.size))
  have hct : checkS [fen, hill] 150 t = 0 := (hsc.out.checkS _ _).trans (new_check known_check)
  obtain ⟨e1, e2, e3⟩ := (check_ok hct).lens
  have c38 : Calls Try.prog 38 #[.agg #[.slice A 2 c, .int .i64 150], storeVal t, .slice (some ⟨bl, 0, none⟩) 6 6] wl (RunOut (runP [fen, hill] 150 t knownL) wl) :=
    run_any A c [fen, hill] 150 t (some ⟨bl, 0, none⟩) 6 knownL wl hpl' hrl' hrl (by omega) (by omega) (fun x hx => by have := e3 x hx; omega)
  replace hwl := Lib.hid hwl
  replace hbl := Lib.hid hbl
  obtain ⟨m0, m1, m2, m3, m4, m5⟩ := six_cells hxs'
  obtain ⟨k0, k1⟩ := cells2 hxf'
  clear e1 e2 e3 hct hxl hrl hrl' hbw hxs hxf hps hrs hBs
  replace hxs' := Lib.hid hxs'
  replace hxf' := Lib.hid hxf'
  replace c38 := Lib.hid c38
  go_wp2_with fail
  go_at_call 38
  (with_reducible refine c38.out.mono ?_)
  rintro e w3 ⟨u, rfl, hsu, hru, hb3, hfu⟩
  obtain ⟨hre, hsK⟩ := known_same hsc.out hsu
  rw [hre]
  have hlt := (Array.getElem?_eq_some_iff.1 hxs'.out).1
  have hx3 := (hb3.block bs hlt).trans hxs'.out
  have hxf3 := (hb3.block bf (Array.getElem?_eq_some_iff.1 hxf'.out).1).trans hxf'.out
  have hB3 := hBl.out.trans (hb3.mono hBl.out.size)
  have hb32 := hbl2.out.trans (hb3.mono hbl2.out.size)
  have hfr : ∀ j, w3.frozen? ⟨bs, j, none⟩ = false := fun j => frozen_of_row w3 _ j _ _ hx3
  have f0 := hfr 0
  have f1 := hfr 1
  have f2 := hfr 2
  have f3 := hfr 3
  have f4 := hfr 4
  have f5 := hfr 5
  clear hfr m0 m1 m2 m3 m4 m5 k0 k1 c38 hb3
  obtain ⟨m0, m1, m2, m3, m4, m5⟩ := six_cells hx3
  obtain ⟨g0, g1⟩ := hgs.out
  obtain ⟨w4, hw4⟩ : ∃ x, x = putS w3 bs u := ⟨_, rfl⟩
  have hr4 : RdStore w4 u := by rw [hw4]; exact hru.over hfu hlt hx3 fun k hk => set6_other _ _ _ _ _ _ hk
  have hx4 : w4.heap[bs]? = some (.cells (storeCells u) 43 (0, 0)) := by rw [hw4]; exact set6 _ _ _ _ _ _ hx3
  have hxf4 : w4.heap[bf]? = some (.cells #[.slice A 2 c, .int .i64 150] 24 (0, 0)) := by rw [hw4]; exact (set6_other _ _ _ _ _ _ (by omega)).trans hxf3
  have hB4 : Hid (Below w.heap.size w w4) := by rw [hw4]; exact set6_below _ _ _ _ _ _ hB3 g0
  have hp4 : RdPlots w4 A [fen, hill] := hq2.out.below (by rw [hw4]; exact set6_below _ _ _ _ _ _ hb32 hge.out)
  have hct : checkS [fen, hill] 150 u = 0 := (hsK.checkS _ _).trans known_ok
  obtain ⟨e1, e2, e3⟩ := (check_ok hct).lens
  have c30 : Calls Try.prog 30 #[.agg #[.slice A 2 c, .int .i64 150], storeVal u] w4 (LedOut (ledP [fen, hill] 150 u) w4) := ledger_any A c [fen, hill] 150 u w4 hp4 hr4 (by omega) (by omega) (fun x hx => by have := e3 x hx; omega)
  rw [known_led hsK] at c30
  replace c30 := Lib.hid c30
  replace hx3 := Lib.hid hx3
  clear e1 e2 e3 hct hru hfu hsu hre hxf3 hB3 hb32 hr4 hp4
  go_upto_region 7 with fail
  unfold putS at hw4
  rw [← hw4]
  clear f0 f1 f2 f3 f4 f5 m0 m1 m2 m3 m4 m5
  replace hw4 := Lib.hid hw4
  obtain ⟨m0, m1, m2, m3, m4, m5⟩ := six_cells hx4
  obtain ⟨k0, k1⟩ := cells2 hxf4
  replace hx4 := Lib.hid hx4
  replace hxf4 := Lib.hid hxf4
  go_wp2_with fail
  go_at_call 30
  (with_reducible refine c30.out.mono ?_)
  rintro e w5 ⟨B, cb, rfl, hrc, hb5⟩
  have hB5 := Lib.hid (hB4.out.trans (hb5.mono hB4.out.size))
  obtain ⟨ad, hA, y0, y1, y2, y3⟩ := FlatRow.at4k hrc (i := 0) (by decide) rfl
  obtain ⟨ad2, hA2, z0, z1, z2, z3⟩ := FlatRow.at4k hrc (i := 1) (by decide) rfl
  subst hA
  cases hA2
  have y0' : w5.cell? ad = some (.int .i64 44) := y0
  have y1' : w5.cell? ⟨ad.block, ad.off + 1, none⟩ = some (.int .i64 15) := y1
  have y2' : w5.cell? ⟨ad.block, ad.off + 2, none⟩ = some (.int .i64 25) := y2
  have y3' : w5.cell? ⟨ad.block, ad.off + 3, none⟩ = some (.int .i64 4) := y3
  have z0' : w5.cell? ⟨ad.block, ad.off + 4, none⟩ = some (.int .i64 0) := z0
  have z1' : w5.cell? ⟨ad.block, ad.off + 4 + 1, none⟩ = some (.int .i64 0) := z1
  have z2' : w5.cell? ⟨ad.block, ad.off + 4 + 2, none⟩ = some (.int .i64 0) := z2
  have z3' : w5.cell? ⟨ad.block, ad.off + 4 + 3, none⟩ = some (.int .i64 0) := z3
  clear y0 y1 y2 y3 z0 z1 z2 z3
  go_wp2_with fail
  go_ret
  exact ⟨rfl, hB5.out⟩
end Go.Proofs.Ytpgkhlpepckfgaa
