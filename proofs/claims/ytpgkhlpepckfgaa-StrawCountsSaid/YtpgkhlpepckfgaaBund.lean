/-
  Of which loads a bundle is made, as the specification has it: walked.
-/
import Derived.Test.YtpgkhlpepckfgaaBundP
import Derived.Deep.RegionHeld3
import Derived.Outline
namespace Go.Proofs.Ytpgkhlpepckfgaa
open Go.RowKit Go.Lib

set_option maxHeartbeats 2000000 in
set_option maxRecDepth 100000 in
theorem rbundle_any (A : Option Addr) (c : Nat) (pl : List Plot) (dry : Int) (s : Store) (nm : ByteArray) (k : Int) (w : World) (h : RdPlots w A pl) (hs : RdStore w s) (hu : s.used.length ≤ 1000000) (hw : s.waste.length ≤ 1000000) (hh : ∀ x ∈ s.heaps, x.parts.length ≤ 1000000) :
    Calls Try.prog 33 #[.agg #[.slice A pl.length c, .int .i64 dry], storeVal s, .string nm, .int .i64 k] w (BundOut (bundleP pl dry s nm k) w) := by
  obtain ⟨W0, hW0⟩ : ∃ W0, W0 = (w.alloc (.cells #[.slice A pl.length c, .int .i64 dry] 24)).alloc (.cells (storeCells s) 43) := ⟨_, rfl⟩
  have hF0 : FS w A c pl dry s W0 := by rw [hW0]; exact FS.start
  obtain ⟨d1, d2⟩ := hF0.cells
  obtain ⟨k0, k1, k2, k3, k4, k5⟩ := six_cells hF0.store
  have hz1 : w.heap.size + 1 < W0.heap.size := hF0.size
  have hz0 : w.heap.size < W0.heap.size := by omega
  replace hF0 := Lib.hid hF0
  have b3 := hs.heaps.1.1
  obtain ⟨ck, hck⟩ : ∃ ck, ck = checkS pl dry s := ⟨_, rfl⟩
  have hca := rcheckStore_any A c pl dry s W0 (h.below hF0.out.below) (hs.below hF0.out.below) hu hw hh
  rw [← hck] at hca
  replace hca := Lib.hid hca
  by_cases hc0 : ck = 0
  · subst hc0
    obtain ⟨i, hi⟩ : ∃ i, i = nameIdx nm s.heaps := ⟨_, rfl⟩
    have hat : ∀ W, RdStore W s → Calls Try.prog 70 #[storeVal s, .string nm] W fun e w' => e = .returned (.int .i64 i) ∧ Below W.heap.size W w' := fun W hW => hi ▸ at_any s nm W hW
    replace hat := Lib.hid hat
    have hrg := nameIdx_range nm s.heaps
    rw [← hi] at hrg
    obtain ⟨g1, g2⟩ := hrg
    by_cases hneg : i < 0
    · have hres := Lib.hid (bundleP_none (k := k) hck.symm (by rw [← hi]; exact hneg))
      replace hck := Lib.hid hck.symm
      replace hi := Lib.hid hi
      go_enter Try.func33, Try.ntmps33
      go_wp2_with fail
      rw [← hW0]
      replace hW0 := Lib.hid hW0
      go_wp2_with (first | (go_at_call 29; refine hca.out.mono ?_; rintro e w1 ⟨rfl, hb1⟩; have hF1 := Lib.hid (hF0.out.later hb1); obtain ⟨x0, x1, x2, x3, x4, x5⟩ := six_cells hF1.out.store) | (go_at_call 70; refine (hat.out _ (hs.below hF1.out.below)).mono ?_; rintro e w2 ⟨rfl, hb2⟩))
      go_ret2
      refine ⟨none, 0, by rw [hres.out]; rfl, by rw [hres.out]; exact parts_nil _, (hF1.out.later hb2).below⟩
    · obtain ⟨j, hj⟩ : ∃ j : Nat, i = (j : Int) := ⟨i.toNat, by omega⟩
      subst hj
      have hjl : j < s.heaps.length := by omega
      have hHB := checkS_heap hck.symm hjl
      obtain ⟨hpr, hnm⟩ := hs.heaps.2 _ (List.getElem_mem hjl)
      have hplen := hh _ (List.getElem_mem hjl)
      obtain ⟨ah, hA, _⟩ := hs.heaps.1.at7 hjl rfl
      obtain ⟨ha, hha⟩ : ∃ x, x = s.ha := ⟨_, rfl⟩
      have hah : ha = some ah := hha.trans hA
      have hrow : Hid (∀ W, Below w.heap.size w W → ∃ ad, s.ha = some ad ∧ W.cell? (ad.add (j * 7)) = some (.string s.heaps[j].name) ∧ W.cell? ⟨(ad.add (j * 7)).block, (ad.add (j * 7)).off + 1, none⟩ = some (.int .i64 s.heaps[j].crop) ∧ W.cell? ⟨(ad.add (j * 7)).block, (ad.add (j * 7)).off + 2, none⟩ = some (.int .i64 s.heaps[j].stage) ∧ W.cell? ⟨(ad.add (j * 7)).block, (ad.add (j * 7)).off + 3, none⟩ = some (.slice s.heaps[j].pa s.heaps[j].parts.length s.heaps[j].pc) ∧ W.cell? ⟨(ad.add (j * 7)).block, (ad.add (j * 7)).off + 4, none⟩ = some (.int .i64 s.heaps[j].per) ∧ W.cell? ⟨(ad.add (j * 7)).block, (ad.add (j * 7)).off + 5, none⟩ = some (.int .i64 s.heaps[j].wet.lo) ∧ W.cell? ⟨(ad.add (j * 7)).block, (ad.add (j * 7)).off + 6, none⟩ = some (.int .i64 s.heaps[j].wet.hi)) := fun W hW => (FlatRow.below hs.heaps.1 hW).at7 hjl rfl
      have hb1' := bundleP_state (k := k) hck.symm hi.symm hjl
      have hb2' := bundleP_arg (k := k) hck.symm hi.symm hjl
      have hb3' := bundleP_ok (k := k) hck.symm hi.symm hjl
      obtain ⟨H, hH⟩ : ∃ H, H = s.heaps[j] := ⟨_, rfl⟩
      rw [← hH] at hHB hpr hnm hplen hb1' hb2' hb3'
      simp only [← hH] at hrow
      replace hH := Lib.hid hH
      have hpm := Lib.hid (proper_mild (heapB_proper hHB) hplen)
      have hah' : Hid (s.ha = some ah) := hA
      clear hha hA
      replace hah := Lib.hid hah
      obtain ⟨sm1, sm2⟩ := hpm.out.sum
      by_cases hst : H.stage = 3
      · obtain ⟨pe1, pe2⟩ := bound_per hHB hst
        have hsb : (H.stage != 3) = false := by rw [hst]; rfl
        replace hb2' := Lib.hid (hb2' hst)
        replace hb3' := Lib.hid (hb3' hst)
        replace hst := Lib.hid hst
        replace hHB := Lib.hid hHB
        replace hck := Lib.hid hck.symm
        replace hi := Lib.hid hi
        clear hb1'
        go_enter Try.func33, Try.ntmps33
        go_wp2_with fail
        rw [← hW0]
        replace hW0 := Lib.hid hW0
        go_wp2_with (first | (go_at_call 29; refine hca.out.mono ?_; rintro e w1 ⟨rfl, hb1⟩; have hF1 := Lib.hid (hF0.out.later hb1); obtain ⟨x0, x1, x2, x3, x4, x5⟩ := six_cells hF1.out.store) | (go_at_call 70; refine (hat.out _ (hs.below hF1.out.below)).mono ?_; rintro e w2 ⟨rfl, hb2⟩; have hF2 := Lib.hid (hF1.out.later hb2); obtain ⟨_, _, _, z3, _, _⟩ := six_cells hF2.out.store; rw [hah'.out] at z3; obtain ⟨ad, e2, h0, h1, h2, h3, h4, h5, h6⟩ := hrow.out _ hF2.out.below; cases hah'.out.symm.trans e2; replace e2 := Lib.hid e2))
        obtain ⟨W3, hW3⟩ : ∃ W3, W3 = w2.alloc (.cells #[.string H.name, .int .i64 H.crop, .int .i64 H.stage, .slice H.pa H.parts.length H.pc, .int .i64 H.per, .int .i64 H.wet.lo, .int .i64 H.wet.hi] 77) := ⟨_, rfl⟩
        have hF3 : FS w A c pl dry s W3 := by rw [hW3]; exact hF2.out.later ((Below.refl _ w2).alloc (Nat.le_refl _) _)
        obtain ⟨m0, m1, m2, m3, m4, m5, m6⟩ := seven_cells (show W3.heap[w2.heap.size]? = some (.cells (hcells H) 77 (0, 0)) by rw [hW3]; exact heap_new _ _ _ rfl)
        rw [← hW3]
        have hbl : w2.heap.size < W3.heap.size := by rw [hW3]; simp
        replace hW3 := Lib.hid hW3
        replace hF3 := Lib.hid hF3
        clear h0 h1 h2 h3 h4 h5 h6 z3 x0 x1 x2 x3 x4 x5 d1 d2 k0 k1 k2 k3 k4 k5
        obtain ⟨sm, hsm⟩ : ∃ sm, sm = sumL H.parts := ⟨_, rfl⟩
        rw [← hsm] at sm1 sm2 hb2' hb3'
        have hq71 : ∀ n, Calls Try.prog 71 #[.slice H.pa H.parts.length H.pc] (W3.drewN n) fun e w' => e = .returned (.int .i64 sm) ∧ w' = W3.drewN n := fun n => by rw [hsm]; exact (loads_any _ _ _ _ (hpr.below (hF3.out.below.trans (below_drewN_ W3 n))) hpm.out).mono fun _ _ ⟨a, b⟩ => ⟨a, b.symm⟩
        have hq49 : ∀ x W, Calls Try.prog 49 #[.int .i64 k, .int .i64 0, .int .i64 x] W fun e w' => e = .returned (.bool (inB k 0 x)) ∧ w' = W := fun x W => (rin_any _ _ _ _).mono fun _ _ ⟨a, b⟩ => ⟨a, b.symm⟩
        replace hsm := Lib.hid hsm
        go_big_quiet (first | (go_at_call 71; exact Calls.quiet_of_same (hq71 _)) | (go_at_call 49; exact Calls.quiet_of_same (hq49 _ _)))
        rename_i nq _
        have hwr : wrap64 (sm / H.per - 1) = sm / H.per - 1 := by
          have : sm / H.per ≤ sm := Int.ediv_le_self _ sm1
          have : 0 ≤ sm / H.per := Int.ediv_nonneg sm1 (by omega)
          generalize sm / H.per = q at *
          unfold wrap64
          omega
        cases htst : inB k 0 (wrap64 (sm / H.per - 1))
        · rw [hwr] at htst
          have hres := Lib.hid (hb2'.out htst)
          clear hb2' hb3'
          go_wp2
          go_ret2
          refine ⟨none, 0, by rw [hres.out]; rfl, by rw [hres.out]; exact parts_nil _, (hF3.out.later (below_drewN_ W3 nq)).below⟩
        · rw [hwr] at htst
          have hres := Lib.hid (hb3'.out htst)
          clear hb2' hb3'
          simp only [inB, Bool.and_eq_true, decide_eq_true_eq] at htst
          have hkp0 : 0 ≤ k * H.per := Int.mul_nonneg htst.1 (by omega)
          have hkp1 : k * H.per ≤ sm := by
            have h1 : k * H.per ≤ (sm / H.per) * H.per := Int.mul_le_mul_of_nonneg_right (by omega) (by omega)
            have h2 : sm / H.per * H.per ≤ sm := Int.ediv_mul_le sm (by omega)
            omega
          have hkw : wrap64 (k * H.per) = k * H.per := by
            generalize k * H.per = q at *
            unfold wrap64
            omega
          have hF4 : FS w A c pl dry s (W3.drewN nq) := hF3.out.later (below_drewN_ W3 nq)
          have hbl4 : w2.heap.size < (W3.drewN nq).heap.size := hbl
          have m3' : (W3.drewN nq).cell? ⟨w2.heap.size, 3, none⟩ = some (.slice H.pa H.parts.length H.pc) := m3
          have m4' : (W3.drewN nq).cell? ⟨w2.heap.size, 4, none⟩ = some (.int .i64 H.per) := m4
          generalize W3.drewN nq = W4 at hF4 hbl4 m3' m4' ⊢
          clear m0 m1 m2 m3 m4 m5 m6
          replace hF4 := Lib.hid hF4
          have hr4 := hpr.below hF4.out.below
          have hc1 := Lib.hid (rcut_any _ H.pc _ _ _ hr4 hpm.out ⟨hkp0, by omega⟩)
          have hc2 := fun W A c hW => Lib.hid (rcut_any A c _ H.per W hW (hpm.out.cutR hkp0) ⟨by omega, by omega⟩)
          go_wp2_with (first | (go_at_call 72; refine hc2.out.mono ?_; rintro e w5 ⟨A3, c3, A4, c4, rfl, p3, p4, hb5⟩) | (go_at_call 72; refine hc1.out.mono ?_; rintro e w4 ⟨A1, c1, A2, c2, rfl, p1, p2, hb4⟩; have hF5 := Lib.hid (hF4.out.later hb4); have x4 := (hb4.cell (p := ⟨w2.heap.size, 4, none⟩) hbl4).trans m4'; replace hc2 := hc2 _ _ c2 p2))
          go_ret2
          exact ⟨A3, c3, by rw [hres.out]; rfl, by rw [hres.out]; exact p3, (hF5.out.later hb5).below⟩
      · have hsb : (H.stage != 3) = true := bne_iff_ne.2 hst
        have hres := Lib.hid (hb1' hst)
        replace hst := Lib.hid hst
        replace hHB := Lib.hid hHB
        replace hck := Lib.hid hck.symm
        replace hi := Lib.hid hi
        clear hb1' hb2' hb3'
        go_enter Try.func33, Try.ntmps33
        go_wp2_with fail
        rw [← hW0]
        replace hW0 := Lib.hid hW0
        go_wp2_with (first | (go_at_call 29; refine hca.out.mono ?_; rintro e w1 ⟨rfl, hb1⟩; have hF1 := Lib.hid (hF0.out.later hb1); obtain ⟨x0, x1, x2, x3, x4, x5⟩ := six_cells hF1.out.store) | (go_at_call 70; refine (hat.out _ (hs.below hF1.out.below)).mono ?_; rintro e w2 ⟨rfl, hb2⟩; have hF2 := Lib.hid (hF1.out.later hb2); obtain ⟨_, _, _, z3, _, _⟩ := six_cells hF2.out.store; rw [hah'.out] at z3; obtain ⟨ad, e2, h0, h1, h2, h3, h4, h5, h6⟩ := hrow.out _ hF2.out.below; cases hah'.out.symm.trans e2; replace e2 := Lib.hid e2))
        go_ret2
        exact ⟨none, 0, by rw [hres.out]; rfl, by rw [hres.out]; exact parts_nil _, (hF2.out.later ((Below.refl _ w2).alloc (Nat.le_refl _) _)).below⟩
  · have hcb : (ck != 0) = true := bne_iff_ne.2 hc0
    have hres : Hid (bundleP pl dry s nm k = ([], ck)) := by unfold Hid; rw [hck]; exact bundleP_bad (hck ▸ hc0)
    replace hck := Lib.hid hck
    clear hc0
    go_enter Try.func33, Try.ntmps33
    go_wp2_with fail
    rw [← hW0]
    replace hW0 := Lib.hid hW0
    go_wp2_with (go_at_call 29; refine hca.out.mono ?_; rintro e w1 ⟨rfl, hb1⟩)
    go_ret2
    exact ⟨none, 0, by rw [hres.out]; rfl, by rw [hres.out]; exact parts_nil _, (hF0.out.later hb1).below⟩
end Go.Proofs.Ytpgkhlpepckfgaa
