/-
  The law StrawDoes, walked.
-/
import Derived.Test.YtpgkhlpepckfgaaXa10
import Derived.Test.YtpgkhlpepckfgaaXa11
import Derived.Test.YtpgkhlpepckfgaaXa15
import Derived.Test.YtpgkhlpepckfgaaXa18
import Derived.Test.YtpgkhlpepckfgaaXb06
set_option linter.all false
set_option linter.unusedVariables false
set_option linter.unusedSimpArgs false
namespace Go.Proofs.Ytpgkhlpepckfgaa
open Go.RowKit Go.Lib
theorem SameC.toS {s t : Store} (h : SameC s t) : SameS s t := by
  replace h := h.symm
  refine ⟨h.year, h.last, h.given, h.used, h.waste, h.len, fun i hs ht => ?_⟩
  have e := congrArg (fun l => l[i]?) h.heaps
  simp only [List.getElem?_map, List.getElem?_eq_getElem hs, List.getElem?_eq_getElem ht, Option.map_some, Option.some.injEq] at e
  unfold bareH at e
  obtain ⟨a, b, c, d, e1, f, _, _⟩ := Heap.mk.inj e
  exact ⟨a, b, c, d, e1, f⟩
/-- The farm, the store, the chore. -/
structure LX (w : World) (A : Option Addr) (c : Nat) (pl : List Plot) (dry : Int) (s : Store) (a : Chore) (W : World) : Prop where
  below : Below w.heap.size w W
  farm : W.heap[w.heap.size]? = some (.cells #[.slice A pl.length c, .int .i64 dry] 24 (0, 0))
  store : W.heap[w.heap.size + 1]? = some (.cells (storeCells s) 43 (0, 0))
  chore : W.heap[w.heap.size + 1 + 1]? = some (.cells (choreCells a) 64 (0, 0))
  size : w.heap.size + 3 ≤ W.heap.size
section
variable {w : World} {A : Option Addr} {c : Nat} {pl : List Plot} {dry : Int} {s : Store} {a : Chore} {W W' : World}
theorem LX.make : LX w A c pl dry s a (((w.alloc (.cells #[.slice A pl.length c, .int .i64 dry] 24)).alloc (.cells (storeCells s) 43)).alloc (.cells (choreCells a) 64)) := by
  refine ⟨((((Below.refl _ w).alloc (Nat.le_refl _) _).alloc (by simp) _).alloc (by simp; omega) _), ?_, ?_, ?_, by simp⟩
  · exact heap_old _ _ _ _ (heap_old _ _ _ _ (heap_new _ _ _ rfl))
  · exact heap_old _ _ _ _ (heap_new _ _ _ (by simp))
  · exact heap_new _ _ _ (by simp)
theorem LX.later (h : LX w A c pl dry s a W) (hb : Below W.heap.size W W') : LX w A c pl dry s a W' := by
  have hz := h.size
  exact ⟨h.below.trans (hb.mono h.below.size), (hb.block _ (by omega)).trans h.farm, (hb.block _ (by omega)).trans h.store, (hb.block _ (by omega)).trans h.chore, Nat.le_trans hz hb.size⟩
end

set_option maxHeartbeats 4000000 in
set_option maxRecDepth 100000 in
theorem does_any (A : Option Addr) (c : Nat) (pl : List Plot) (dry : Int) (s : Store) (a : Chore) (w : World) (h : RdPlots w A pl) (hs : RdStore w s) (ha : a.name.size ≤ 140737488351232 ∧ a.other.size ≤ 140737488351232 ∧ (Lit.int .i64 a.kind).wf = true) :
    Calls Try.prog 7 #[.agg #[.slice A pl.length c, .int .i64 dry], storeVal s, choreVal a] w fun e w' => e = .returned (.bool true) ∧ Below w.heap.size w w' := by
  obtain ⟨W0, hW0⟩ : ∃ W0, W0 = (((w.alloc (.cells #[.slice A pl.length c, .int .i64 dry] 24)).alloc (.cells (storeCells s) 43)).alloc (.cells (choreCells a) 64)) := ⟨_, rfl⟩
  have hX0 : Hid (LX w A c pl dry s a W0) := by rw [hW0]; exact LX.make
  obtain ⟨ho1, ho2, hkwf⟩ := ha
  obtain ⟨p0, p1⟩ := cells2 hX0.out.farm
  go_enter Try.func7, Try.ntmps7
  go_upto_region 1 with fail
  rw [← hW0]
  replace hW0 := Lib.hid hW0
  go_wp2_with (first | (go_at_call 16; refine (great_any _ _ pl _ _ (h.below hX0.out.below)).mono ?_; rintro e w1 ⟨⟨b, rfl, hgr⟩, hb1⟩; have hX1 := Lib.hid (hX0.out.later hb1); obtain ⟨k0, k1, k2, k3, k4, k5⟩ := six_cells hX1.out.store) | (go_at_call 22; refine (wide_any s _ (hs.below hX1.out.below)).mono ?_; rintro e w2 ⟨⟨b2, rfl, hwd⟩, hb2⟩; have hX2 := Lib.hid (hX1.out.later hb2); obtain ⟨c0, c1, c2, c3, c4, c5, c6, c7, c8⟩ := nine_cells2 hX2.out.chore; obtain ⟨p2, p3⟩ := cells2 hX2.out.farm; obtain ⟨l0, l1, l2, l3, l4, l5⟩ := six_cells hX2.out.store) | (go_at_call 17; refine (lives_any _).mono ?_; rintro e wL ⟨rfl, hbL⟩))
  · go_ret
    exact ⟨rfl, (hX1.out.later hbL).below⟩
  · go_ret
    exact ⟨rfl, (hX2.out.later hbL).below⟩
  · go_ret
    exact ⟨rfl, (hX2.out.later hbL).below⟩
  · obtain ⟨w1b, w2b, w3b, _, _, w6b⟩ := hwd (by first | rfl | assumption | simp_all)
    have hu : s.used.length ≤ 1000000 := by omega
    have hwl : s.waste.length ≤ 1000000 := by omega
    have hh : ∀ x ∈ s.heaps, x.parts.length ≤ 1000000 := fun x hx => Nat.le_trans (w6b x hx) (by decide)
    obtain ⟨r, hr⟩ : ∃ r, r = doP pl dry s a := ⟨_, rfl⟩
    have c35 : ∀ W, LX w A c pl dry s a W → Calls Try.prog 35 #[.agg #[.slice A pl.length c, .int .i64 dry], storeVal s, choreVal a] W (DoOut r W) := fun W hW => hr ▸ do_any A c pl dry s a W (h.below hW.below) (hs.below hW.below) hu hwl hh ho1 ho2 hkwf
    have c36 : ∀ W, LX w A c pl dry s a W → Calls Try.prog 36 #[.agg #[.slice A pl.length c, .int .i64 dry], storeVal s, choreVal a] W (DoOut r W) := fun W hW => hr ▸ rdo_any A c pl dry s a W (h.below hW.below) (hs.below hW.below) hu hwl hh ho1 ho2
    replace c35 := Lib.hid c35
    replace c36 := Lib.hid c36
    replace hr := Lib.hid hr
    go_at_call 35
    (with_reducible refine (c35.out _ hX2.out).mono ?_)
    rintro e w3 ⟨t, rfl, hst, hrt, hb3, _⟩
    have hX3 := Lib.hid (hX2.out.later hb3)
    clear k0 k1 k2 k3 k4 k5 c0 c1 c2 c3 c4 c5 c6 c7 c8 p0 p1 p2 p3 l0 l1 l2 l3 l4 l5 hgr hwd hb1 hb2 hb3 c35
    replace hst := Lib.hid hst
    go_upto_region 4 with fail
    obtain ⟨wt, hwt⟩ : ∃ x, x = w3.alloc (.cells (storeCells t) 43) := ⟨_, rfl⟩
    obtain ⟨bt, hbt⟩ : ∃ x, x = w3.heap.size := ⟨_, rfl⟩
    rw [← hwt, ← hbt]
    have hbw : Below w3.heap.size w3 wt := by rw [hwt]; exact (Below.refl _ w3).alloc (Nat.le_refl _) _
    have hxt : wt.heap[bt]? = some (.cells (storeCells t) 43 (0, 0)) := by rw [hwt, hbt]; exact heap_new _ _ _ rfl
    have hXt := Lib.hid (hX3.out.later hbw)
    have qt := hrt.below hbw
    clear hbw hrt
    replace hwt := Lib.hid hwt
    replace hbt := Lib.hid hbt
    obtain ⟨p2, p3⟩ := cells2 hXt.out.farm
    obtain ⟨m0, m1, m2, m3, m4, m5⟩ := six_cells hXt.out.store
    obtain ⟨n0, n1, n2, n3, n4, n5, n6, n7, n8⟩ := nine_cells2 hXt.out.chore
    go_wp2_with fail
    go_at_call 36
    (with_reducible refine (c36.out _ hXt.out).mono ?_)
    rintro e w4 ⟨u, rfl, hsu, hru, hb4, _⟩
    have hX4 := Lib.hid (hXt.out.later hb4)
    have q4 := qt.below hb4
    have hx4 := (hb4.block bt (Array.getElem?_eq_some_iff.1 hxt).1).trans hxt
    clear p2 p3 m0 m1 m2 m3 m4 m5 n0 n1 n2 n3 n4 n5 n6 n7 n8 hb4 hxt qt c36
    replace hsu := Lib.hid hsu
    go_upto_region 5 with fail
    obtain ⟨wu, hwu⟩ : ∃ x, x = w4.alloc (.cells (storeCells u) 43) := ⟨_, rfl⟩
    obtain ⟨bu, hbu⟩ : ∃ x, x = w4.heap.size := ⟨_, rfl⟩
    rw [← hwu, ← hbu]
    have hbw : Below w4.heap.size w4 wu := by rw [hwu]; exact (Below.refl _ w4).alloc (Nat.le_refl _) _
    have hxu : wu.heap[bu]? = some (.cells (storeCells u) 43 (0, 0)) := by rw [hwu, hbu]; exact heap_new _ _ _ rfl
    have hXu := Lib.hid (hX4.out.later hbw)
    have qu := hru.below hbw
    have qt := q4.below hbw
    have hx5 := (hbw.block bt (Array.getElem?_eq_some_iff.1 hx4).1).trans hx4
    clear hbw hru q4 hx4
    replace hwu := Lib.hid hwu
    replace hbu := Lib.hid hbu
    obtain ⟨m0, m1, m2, m3, m4, m5⟩ := six_cells hx5
    obtain ⟨n0, n1, n2, n3, n4, n5⟩ := six_cells hxu
    replace hx5 := Lib.hid hx5
    replace hxu := Lib.hid hxu
    have c27 := Lib.hid (sameStore_any t u wu qt qu (hst.out.trans hsu.out.symm).toS)
    clear qt qu
    go_wp2_with (first | (go_at_call 27; refine c27.out.mono ?_; rintro e w6 ⟨rfl, hb6⟩; have hX6 := Lib.hid (hXu.out.later hb6)) | (go_at_call 17; refine (lives_any _).mono ?_; rintro e wL ⟨rfl, hbL⟩))
    go_ret
    exact ⟨rfl, (hX6.out.later hbL).below⟩
end Go.Proofs.Ytpgkhlpepckfgaa
