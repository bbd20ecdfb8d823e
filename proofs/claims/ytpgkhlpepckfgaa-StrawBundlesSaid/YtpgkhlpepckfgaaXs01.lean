/-
  The ledger, as the specification has it: walked. Of which loads a bundle is made, as the specification has it: walked. Of which loads a bundle is made, as the library has it: walked. Of which loads a bundle is made, and where they lie: in a block that is new. Walked.
-/
import Derived.Test.YtpgkhlpepckfgaaXa20
import Derived.Deep.RegionHeld3
import Derived.Outline
set_option linter.all false
set_option linter.unusedVariables false
set_option linter.unusedSimpArgs false
section
namespace Go.Proofs.Ytpgkhlpepckfgaa
open Go.RowKit Go.Lib

theorem FS.heldG {w wr : World} {A : Option Addr} {c : Nat} {pl : List Plot} {dry : Int} {s : Store} (h : FS w A c pl dry s wr) {a : Addr} {x : Int} {G : Option Addr} (hG : G = s.ga) (h1 : a.block < w.heap.size) (h3 : w.cell? a = some (.int .i64 x)) :
    wr.cell? ⟨w.heap.size + 1, 0, none⟩ = some (.int .i64 s.year) ∧ wr.cell? ⟨w.heap.size + 1, 1, none⟩ = some (.slice s.la s.last.length s.lc) ∧ wr.cell? ⟨w.heap.size + 1, 2, none⟩ = some (.slice G s.given.length s.gc) ∧ wr.cell? ⟨w.heap.size + 1, 3, none⟩ = some (.slice s.ha s.heaps.length s.hc) ∧ wr.cell? ⟨w.heap.size + 1, 4, none⟩ = some (.slice s.ua s.used.length s.uc) ∧ wr.cell? ⟨w.heap.size + 1, 5, none⟩ = some (.slice s.wa s.waste.length s.wc) ∧
      wr.cell? a = some (.int .i64 x) ∧ FS w A c pl dry s wr := by
  subst hG
  obtain ⟨x0, x1, x2, x3, x4, x5⟩ := six_cells h.store
  exact ⟨x0, x1, x2, x3, x4, x5, (h.below.cell h1).trans h3, h⟩

set_option maxHeartbeats 2000000 in
set_option maxRecDepth 100000 in
theorem rledger_any (A : Option Addr) (c : Nat) (pl : List Plot) (dry : Int) (s : Store) (w : World) (h : RdPlots w A pl) (hs : RdStore w s) (hu : s.used.length ≤ 1000000) (hw : s.waste.length ≤ 1000000) (hh : ∀ x ∈ s.heaps, x.parts.length ≤ 1000000) :
    Calls Try.prog 31 #[.agg #[.slice A pl.length c, .int .i64 dry], storeVal s] w (LedOut (ledP pl dry s) w) := by
  obtain ⟨W0, hW0⟩ : ∃ W0, W0 = (w.alloc (.cells #[.slice A pl.length c, .int .i64 dry] 24)).alloc (.cells (storeCells s) 43) := ⟨_, rfl⟩
  have hF0 : FS w A c pl dry s W0 := by rw [hW0]; exact FS.start
  obtain ⟨d1, d2⟩ := hF0.cells
  obtain ⟨k0, k1, k2, k3, k4, k5⟩ := six_cells hF0.store
  have hz1 : w.heap.size + 1 < W0.heap.size := hF0.size
  have hz0 : w.heap.size < W0.heap.size := by omega
  replace hF0 := Lib.hid hF0
  obtain ⟨ck, hck⟩ : ∃ ck, ck = checkS pl dry s := ⟨_, rfl⟩
  have hca := rcheckStore_any A c pl dry s W0 (h.below hF0.out.below) (hs.below hF0.out.below) hu hw hh
  rw [← hck] at hca
  replace hca := Lib.hid hca
  by_cases hc0 : ck = 0
  · subst hc0
    have hG := good_store hck.symm hu hw hh
    have hres := Lib.hid (ledP_ok hck.symm)
    have hp12 := hG.plots
    replace hG := Lib.hid hG
    replace hck := Lib.hid hck.symm
    go_enter Try.func31, Try.ntmps31
    go_wp2_with fail
    rw [← hW0]
    replace hW0 := Lib.hid hW0
    go_wp2_with (go_at_call 29; refine hca.out.mono ?_; rintro e w1 ⟨rfl, hb1⟩; have hF1 := Lib.hid (hF0.out.later hb1))
    clear d1 d2 k0 k1 k2 k3 k4 k5
    go_loopw [7, 8] (fun v i wr => ∃ (k : Nat) (v' : Value), v = v' ∧ i = .int .i64 k ∧ k ≤ pl.length ∧ Hid (LedI w A c pl dry s k v' wr)) (fun _ i _ => pl.length - (intOf i).toNat)
    case atStart => exact ⟨0, _, rfl, rfl, Nat.zero_le _, ⟨hF1.out, CRow.nil _ _⟩⟩
    case round =>
      obtain ⟨k, v, rfl, rfl, hk, hL⟩ := hrel
      obtain ⟨d1, d2⟩ := hL.out.toFS.cells
      by_cases hlt : k < pl.length
      · have hjg : k < s.given.length := by rw [hG.out.given]; exact hlt
        obtain ⟨ag, hag, gg⟩ := FlatRow.at1 hs.given hjg rfl
        have hcl0 := cntsL_len s k
        have hcA : cntAt s k = ⟨s.given[k], ofL s.used k, leftL s.heaps k, ofL s.waste k⟩ := by unfold cntAt; rw [getD_lt _ hjg]
        obtain ⟨gj, hgj⟩ : ∃ gj, gj = s.given[k] := ⟨_, rfl⟩
        rw [← hgj] at gg hcA
        have zg := World.block_lt_of_cell? w _ gg
        have hag' : Hid (some ag = s.ga) := hag.symm
        replace gg := Lib.hid gg
        clear hgj hag
        obtain ⟨lf, hlf⟩ : ∃ lf, lf = leftL s.heaps k := ⟨_, rfl⟩
        obtain ⟨of1, hof1⟩ : ∃ x, x = ofL s.used k := ⟨_, rfl⟩
        obtain ⟨of2, hof2⟩ : ∃ x, x = ofL s.waste k := ⟨_, rfl⟩
        rw [← hlf, ← hof1, ← hof2] at hcA
        have hcl : ∀ W, LedI w A c pl dry s k u7 W → Calls Try.prog 65 #[.agg #[.int .i64 s.year, .slice s.la s.last.length s.lc, .slice (some ag) s.given.length s.gc, .slice s.ha s.heaps.length s.hc, .slice s.ua s.used.length s.uc, .slice s.wa s.waste.length s.wc], .int .i64 k] W fun e w' => e = .returned (.int .i64 lf) ∧ Below W.heap.size W w' := fun W hW => by
          rw [hag'.out, hlf]; exact left_any s k W (hs.below hW.below) hG.out.heaps
        have hc1 : ∀ W, LedI w A c pl dry s k u7 W → Calls Try.prog 64 #[.slice s.ua s.used.length s.uc, .int .i64 k] W fun e w' => e = .returned (.int .i64 of1) ∧ W = w' := fun W hW => hof1 ▸ of_any _ _ s.used k W (hs.used.below hW.below) hG.out.used
        have hc2 : ∀ W, LedI w A c pl dry s k u7 W → Calls Try.prog 64 #[.slice s.wa s.waste.length s.wc, .int .i64 k] W fun e w' => e = .returned (.int .i64 of2) ∧ W = w' := fun W hW => hof2 ▸ of_any _ _ s.waste k W (hs.waste.below hW.below) hG.out.waste
        replace hcl := Lib.hid hcl
        replace hc1 := Lib.hid hc1
        replace hc2 := Lib.hid hc2
        replace hlf := Lib.hid hlf
        replace hof1 := Lib.hid hof1
        replace hof2 := Lib.hid hof2
        replace hcA := Lib.hid hcA
        have hm1 : Hid ((cntsL s k).length + 1 ≤ maxLen) := by unfold Hid maxLen; omega
        have hm2 : Hid (((cntsL s k).length + 1) * 32 ≤ 140737488355328) := by unfold Hid; omega
        obtain ⟨i0, hi0, hz0', hs0, hb0⟩ := info_parts info55
        go_wp2
        have hd : LedI w A c pl dry s k u7 wr.drew := hL.out.later ((Below.refl _ wr).drew)
        have S0 := Lib.hid (hd.toFS.heldG hag'.out zg gg.out)
        go_region_held3 (fun w' => w'.cell? ⟨w.heap.size + 1, 0, none⟩ = some (.int .i64 s.year) ∧ w'.cell? ⟨w.heap.size + 1, 1, none⟩ = some (.slice s.la s.last.length s.lc) ∧ w'.cell? ⟨w.heap.size + 1, 2, none⟩ = some (.slice (some ag) s.given.length s.gc) ∧ w'.cell? ⟨w.heap.size + 1, 3, none⟩ = some (.slice s.ha s.heaps.length s.hc) ∧ w'.cell? ⟨w.heap.size + 1, 4, none⟩ = some (.slice s.ua s.used.length s.uc) ∧ w'.cell? ⟨w.heap.size + 1, 5, none⟩ = some (.slice s.wa s.waste.length s.wc) ∧ w'.cell? (ag.add k) = some (.int .i64 gj) ∧ FS w A c pl dry s w') (first | (with_reducible exact S0.out) | (with_reducible assumption) | (with_reducible exact (by assumption : LedI w A c pl dry s (k + 1) _ _).toFS.heldG hag'.out zg gg.out) | (with_reducible exact (by assumption : LedI w A c pl dry s k u7 _).toFS.heldG hag'.out zg gg.out) | exact (LedI.later (by assumption : LedI w A c pl dry s k u7 _) ((Below.refl _ _).alloc (Nat.le_refl _) _)).toFS.heldG hag'.out zg gg.out) (first | (go_at_call 64; first | ((with_reducible refine (hc1.out _ (by assumption)).mono ?_); rintro e w' ⟨rfl, rfl⟩) | ((with_reducible refine (hc2.out _ (by assumption)).mono ?_); rintro e w' ⟨rfl, rfl⟩)) | (go_at_call 65; (with_reducible refine (hcl.out _ (by assumption)).mono ?_); rintro e w6 ⟨rfl, hb6⟩; have hL6 : LedI w A c pl dry s k u7 w6 := LedI.later (by assumption) hb6) | (refine step_append_lies _ rfl (.tmp 22) (.tmp 40) 51 rfl (w.heap.size + 2) 55 i0 (.agg #[.int .i64 0, .int .i64 0, .int .i64 0, .int .i64 0]) 4 32 Try.underlying51 hi0 hz0' hs0 hb0 rfl (by decide) u7 (cntsL s k).length ((cntsL s k).flatMap encCnt) (by simp [Act.eval]) (LedI.arow (by assumption)) _ 1 1 (encCnt ⟨gj, of1, lf, of2⟩) (by simp [Act.eval]) rfl (new_four _ _) (by simp [encCnt, Value.oneCell']) (by decide) hm1.out hm2.out (LedI.base (by assumption : LedI w A c pl dry s k u7 _)) _ rfl ?_; intro g cap w1 hown hgrow hnear hlt1; have hP : LedI w A c pl dry s (k + 1) (.slice (some ⟨g, 0, none⟩) ((cntsL s k).length + 1) cap) w1 := LedI.push' (by assumption) hcA.out hown hgrow; clear hown hgrow hnear hlt1))
        all_goals
          have hP := Lib.hid (by assumption : LedI w A c pl dry s (k + 1) _ _)
          rw [hcl0] at hP ⊢
          go_wp2
          exact ⟨⟨k + 1, _, rfl, by go_num, by omega, hP⟩, by simp only [intOf]; omega⟩
      · have hke : k = pl.length := by omega
        subst hke
        obtain ⟨A1, c1, hv, H1⟩ := hL.out.row.reads (by rw [cntsL_len]; omega)
        subst hv
        go_wp2
        go_ret2
        exact ⟨A1, c1, by rw [hres.out]; rfl, by rw [hres.out]; exact H1, hL.out.below⟩
  · have hcb : (ck != 0) = true := bne_iff_ne.2 hc0
    have hres : Hid (ledP pl dry s = ([], ck)) := by unfold Hid; rw [hck]; exact ledP_bad (hck ▸ hc0)
    replace hck := Lib.hid hck
    clear hc0
    go_enter Try.func31, Try.ntmps31
    go_wp2_with fail
    rw [← hW0]
    replace hW0 := Lib.hid hW0
    go_wp2_with (go_at_call 29; refine hca.out.mono ?_; rintro e w1 ⟨rfl, hb1⟩)
    go_ret2
    exact ⟨none, 0, by rw [hres.out]; rfl, by rw [hres.out]; exact cnts_nil _, (hF0.out.later hb1).below⟩
end Go.Proofs.Ytpgkhlpepckfgaa
end
section
namespace Go.Proofs.Ytpgkhlpepckfgaa
open Go.RowKit Go.Lib

set_option maxHeartbeats 2000000 in
set_option maxRecDepth 100000 in
theorem rbundle_any (A : Option Addr) (c : Nat) (pl : List Plot) (dry : Int) (s : Store) (nm : ByteArray) (k : Int) (w : World) (h : RdPlots w A pl) (hs : RdStore w s) (hu : s.used.length ≤ 1000000) (hw : s.waste.length ≤ 1000000) (hh : ∀ x ∈ s.heaps, x.parts.length ≤ 1000000) :
    Calls Try.prog 33 #[.agg #[.slice A pl.length c, .int .i64 dry], storeVal s, .string nm, .int .i64 k] w (BundOut (bundleP pl dry s nm k) w) := by
  obtain ⟨W0, hW0⟩ : ∃ W0, W0 = (w.alloc (.cells #[.slice A pl.length c, .int .i64 dry] 24)).alloc (.cells (storeCells s) 43) := ⟨_, rfl⟩
  have hF0 : FS w A c pl dry s W0 := by rw [hW0]; exact FS.start
  obtain ⟨d1, d2⟩ := hF0.cells
  obtain ⟨k0, k1, k2, k3, k4, k5⟩ := six_cells hF0.store
  have hz1 : w.heap.size + 1 < W0.heap.size := hF0.size
  have hz0 : w.heap.size < W0.heap.size := by omega
  replace hF0 := Lib.hid hF0
  have b3 := hs.heaps.1.1
  obtain ⟨ck, hck⟩ : ∃ ck, ck = checkS pl dry s := ⟨_, rfl⟩
  have hca := rcheckStore_any A c pl dry s W0 (h.below hF0.out.below) (hs.below hF0.out.below) hu hw hh
  rw [← hck] at hca
  replace hca := Lib.hid hca
  by_cases hc0 : ck = 0
  · subst hc0
    obtain ⟨i, hi⟩ : ∃ i, i = nameIdx nm s.heaps := ⟨_, rfl⟩
    have hat : ∀ W, RdStore W s → Calls Try.prog 70 #[storeVal s, .string nm] W fun e w' => e = .returned (.int .i64 i) ∧ Below W.heap.size W w' := fun W hW => hi ▸ at_any s nm W hW
    replace hat := Lib.hid hat
    have hrg := nameIdx_range nm s.heaps
    rw [← hi] at hrg
    obtain ⟨g1, g2⟩ := hrg
    by_cases hneg : i < 0
    · have hres := Lib.hid (bundleP_none (k := k) hck.symm (by rw [← hi]; exact hneg))
      replace hck := Lib.hid hck.symm
      replace hi := Lib.hid hi
      go_enter Try.func33, Try.ntmps33
      go_wp2_with fail
      rw [← hW0]
      replace hW0 := Lib.hid hW0
      go_wp2_with (first | (go_at_call 29; refine hca.out.mono ?_; rintro e w1 ⟨rfl, hb1⟩; have hF1 := Lib.hid (hF0.out.later hb1); obtain ⟨x0, x1, x2, x3, x4, x5⟩ := six_cells hF1.out.store) | (go_at_call 70; refine (hat.out _ (hs.below hF1.out.below)).mono ?_; rintro e w2 ⟨rfl, hb2⟩))
      go_ret2
      refine ⟨none, 0, by rw [hres.out]; rfl, by rw [hres.out]; exact parts_nil _, (hF1.out.later hb2).below⟩
    · obtain ⟨j, hj⟩ : ∃ j : Nat, i = (j : Int) := ⟨i.toNat, by omega⟩
      subst hj
      have hjl : j < s.heaps.length := by omega
      have hHB := checkS_heap hck.symm hjl
      obtain ⟨hpr, hnm⟩ := hs.heaps.2 _ (List.getElem_mem hjl)
      have hplen := hh _ (List.getElem_mem hjl)
      obtain ⟨ah, hA, _⟩ := hs.heaps.1.at7 hjl rfl
      obtain ⟨ha, hha⟩ : ∃ x, x = s.ha := ⟨_, rfl⟩
      have hah : ha = some ah := hha.trans hA
      have hrow : Hid (∀ W, Below w.heap.size w W → ∃ ad, s.ha = some ad ∧ W.cell? (ad.add (j * 7)) = some (.string s.heaps[j].name) ∧ W.cell? ⟨(ad.add (j * 7)).block, (ad.add (j * 7)).off + 1, none⟩ = some (.int .i64 s.heaps[j].crop) ∧ W.cell? ⟨(ad.add (j * 7)).block, (ad.add (j * 7)).off + 2, none⟩ = some (.int .i64 s.heaps[j].stage) ∧ W.cell? ⟨(ad.add (j * 7)).block, (ad.add (j * 7)).off + 3, none⟩ = some (.slice s.heaps[j].pa s.heaps[j].parts.length s.heaps[j].pc) ∧ W.cell? ⟨(ad.add (j * 7)).block, (ad.add (j * 7)).off + 4, none⟩ = some (.int .i64 s.heaps[j].per) ∧ W.cell? ⟨(ad.add (j * 7)).block, (ad.add (j * 7)).off + 5, none⟩ = some (.int .i64 s.heaps[j].wet.lo) ∧ W.cell? ⟨(ad.add (j * 7)).block, (ad.add (j * 7)).off + 6, none⟩ = some (.int .i64 s.heaps[j].wet.hi)) := fun W hW => (FlatRow.below hs.heaps.1 hW).at7 hjl rfl
      have hb1' := bundleP_state (k := k) hck.symm hi.symm hjl
      have hb2' := bundleP_arg (k := k) hck.symm hi.symm hjl
      have hb3' := bundleP_ok (k := k) hck.symm hi.symm hjl
      obtain ⟨H, hH⟩ : ∃ H, H = s.heaps[j] := ⟨_, rfl⟩
      rw [← hH] at hHB hpr hnm hplen hb1' hb2' hb3'
      simp only [← hH] at hrow
      replace hH := Lib.hid hH
      have hpm := Lib.hid (proper_mild (heapB_proper hHB) hplen)
      have hah' : Hid (s.ha = some ah) := hA
      clear hha hA
      replace hah := Lib.hid hah
      obtain ⟨sm1, sm2⟩ := hpm.out.sum
      by_cases hst : H.stage = 3
      · obtain ⟨pe1, pe2⟩ := bound_per hHB hst
        have hsb : (H.stage != 3) = false := by rw [hst]; rfl
        replace hb2' := Lib.hid (hb2' hst)
        replace hb3' := Lib.hid (hb3' hst)
        replace hst := Lib.hid hst
        replace hHB := Lib.hid hHB
        replace hck := Lib.hid hck.symm
        replace hi := Lib.hid hi
        clear hb1'
        go_enter Try.func33, Try.ntmps33
        go_wp2_with fail
        rw [← hW0]
        replace hW0 := Lib.hid hW0
        go_wp2_with (first | (go_at_call 29; refine hca.out.mono ?_; rintro e w1 ⟨rfl, hb1⟩; have hF1 := Lib.hid (hF0.out.later hb1); obtain ⟨x0, x1, x2, x3, x4, x5⟩ := six_cells hF1.out.store) | (go_at_call 70; refine (hat.out _ (hs.below hF1.out.below)).mono ?_; rintro e w2 ⟨rfl, hb2⟩; have hF2 := Lib.hid (hF1.out.later hb2); obtain ⟨_, _, _, z3, _, _⟩ := six_cells hF2.out.store; rw [hah'.out] at z3; obtain ⟨ad, e2, h0, h1, h2, h3, h4, h5, h6⟩ := hrow.out _ hF2.out.below; cases hah'.out.symm.trans e2; replace e2 := Lib.hid e2))
        obtain ⟨W3, hW3⟩ : ∃ W3, W3 = w2.alloc (.cells #[.string H.name, .int .i64 H.crop, .int .i64 H.stage, .slice H.pa H.parts.length H.pc, .int .i64 H.per, .int .i64 H.wet.lo, .int .i64 H.wet.hi] 77) := ⟨_, rfl⟩
        have hF3 : FS w A c pl dry s W3 := by rw [hW3]; exact hF2.out.later ((Below.refl _ w2).alloc (Nat.le_refl _) _)
        obtain ⟨m0, m1, m2, m3, m4, m5, m6⟩ := seven_cells (show W3.heap[w2.heap.size]? = some (.cells (hcells H) 77 (0, 0)) by rw [hW3]; exact heap_new _ _ _ rfl)
        rw [← hW3]
        have hbl : w2.heap.size < W3.heap.size := by rw [hW3]; simp
        replace hW3 := Lib.hid hW3
        replace hF3 := Lib.hid hF3
        clear h0 h1 h2 h3 h4 h5 h6 z3 x0 x1 x2 x3 x4 x5 d1 d2 k0 k1 k2 k3 k4 k5
        obtain ⟨sm, hsm⟩ : ∃ sm, sm = sumL H.parts := ⟨_, rfl⟩
        rw [← hsm] at sm1 sm2 hb2' hb3'
        have hq71 : ∀ n, Calls Try.prog 71 #[.slice H.pa H.parts.length H.pc] (W3.drewN n) fun e w' => e = .returned (.int .i64 sm) ∧ w' = W3.drewN n := fun n => by rw [hsm]; exact (loads_any _ _ _ _ (hpr.below (hF3.out.below.trans (below_drewN_ W3 n))) hpm.out).mono fun _ _ ⟨a, b⟩ => ⟨a, b.symm⟩
        have hq49 : ∀ x W, Calls Try.prog 49 #[.int .i64 k, .int .i64 0, .int .i64 x] W fun e w' => e = .returned (.bool (inB k 0 x)) ∧ w' = W := fun x W => (rin_any _ _ _ _).mono fun _ _ ⟨a, b⟩ => ⟨a, b.symm⟩
        replace hsm := Lib.hid hsm
        go_big_quiet (first | (go_at_call 71; exact Calls.quiet_of_same (hq71 _)) | (go_at_call 49; exact Calls.quiet_of_same (hq49 _ _)))
        rename_i nq _
        have hwr : wrap64 (sm / H.per - 1) = sm / H.per - 1 := by
          have : sm / H.per ≤ sm := Int.ediv_le_self _ sm1
          have : 0 ≤ sm / H.per := Int.ediv_nonneg sm1 (by omega)
          generalize sm / H.per = q at *
          unfold wrap64
          omega
        cases htst : inB k 0 (wrap64 (sm / H.per - 1))
        · rw [hwr] at htst
          have hres := Lib.hid (hb2'.out htst)
          clear hb2' hb3'
          go_wp2
          go_ret2
          refine ⟨none, 0, by rw [hres.out]; rfl, by rw [hres.out]; exact parts_nil _, (hF3.out.later (below_drewN_ W3 nq)).below⟩
        · rw [hwr] at htst
          have hres := Lib.hid (hb3'.out htst)
          clear hb2' hb3'
          simp only [inB, Bool.and_eq_true, decide_eq_true_eq] at htst
          have hkp0 : 0 ≤ k * H.per := Int.mul_nonneg htst.1 (by omega)
          have hkp1 : k * H.per ≤ sm := by
            have h1 : k * H.per ≤ (sm / H.per) * H.per := Int.mul_le_mul_of_nonneg_right (by omega) (by omega)
            have h2 : sm / H.per * H.per ≤ sm := Int.ediv_mul_le sm (by omega)
            omega
          have hkw : wrap64 (k * H.per) = k * H.per := by
            generalize k * H.per = q at *
            unfold wrap64
            omega
          have hF4 : FS w A c pl dry s (W3.drewN nq) := hF3.out.later (below_drewN_ W3 nq)
          have hbl4 : w2.heap.size < (W3.drewN nq).heap.size := hbl
          have m3' : (W3.drewN nq).cell? ⟨w2.heap.size, 3, none⟩ = some (.slice H.pa H.parts.length H.pc) := m3
          have m4' : (W3.drewN nq).cell? ⟨w2.heap.size, 4, none⟩ = some (.int .i64 H.per) := m4
          generalize W3.drewN nq = W4 at hF4 hbl4 m3' m4' ⊢
          clear m0 m1 m2 m3 m4 m5 m6
          replace hF4 := Lib.hid hF4
          have hr4 := hpr.below hF4.out.below
          have hc1 := Lib.hid (rcut_any _ H.pc _ _ _ hr4 hpm.out ⟨hkp0, by omega⟩)
          have hc2 := fun W A c hW => Lib.hid (rcut_any A c _ H.per W hW (hpm.out.cutR hkp0) ⟨by omega, by omega⟩)
          go_wp2_with (first | (go_at_call 72; refine hc2.out.mono ?_; rintro e w5 ⟨A3, c3, A4, c4, rfl, p3, p4, hb5⟩) | (go_at_call 72; refine hc1.out.mono ?_; rintro e w4 ⟨A1, c1, A2, c2, rfl, p1, p2, hb4⟩; have hF5 := Lib.hid (hF4.out.later hb4); have x4 := (hb4.cell (p := ⟨w2.heap.size, 4, none⟩) hbl4).trans m4'; replace hc2 := hc2 _ _ c2 p2))
          go_ret2
          exact ⟨A3, c3, by rw [hres.out]; rfl, by rw [hres.out]; exact p3, (hF5.out.later hb5).below⟩
      · have hsb : (H.stage != 3) = true := bne_iff_ne.2 hst
        have hres := Lib.hid (hb1' hst)
        replace hst := Lib.hid hst
        replace hHB := Lib.hid hHB
        replace hck := Lib.hid hck.symm
        replace hi := Lib.hid hi
        clear hb1' hb2' hb3'
        go_enter Try.func33, Try.ntmps33
        go_wp2_with fail
        rw [← hW0]
        replace hW0 := Lib.hid hW0
        go_wp2_with (first | (go_at_call 29; refine hca.out.mono ?_; rintro e w1 ⟨rfl, hb1⟩; have hF1 := Lib.hid (hF0.out.later hb1); obtain ⟨x0, x1, x2, x3, x4, x5⟩ := six_cells hF1.out.store) | (go_at_call 70; refine (hat.out _ (hs.below hF1.out.below)).mono ?_; rintro e w2 ⟨rfl, hb2⟩; have hF2 := Lib.hid (hF1.out.later hb2); obtain ⟨_, _, _, z3, _, _⟩ := six_cells hF2.out.store; rw [hah'.out] at z3; obtain ⟨ad, e2, h0, h1, h2, h3, h4, h5, h6⟩ := hrow.out _ hF2.out.below; cases hah'.out.symm.trans e2; replace e2 := Lib.hid e2))
        go_ret2
        exact ⟨none, 0, by rw [hres.out]; rfl, by rw [hres.out]; exact parts_nil _, (hF2.out.later ((Below.refl _ w2).alloc (Nat.le_refl _) _)).below⟩
  · have hcb : (ck != 0) = true := bne_iff_ne.2 hc0
    have hres : Hid (bundleP pl dry s nm k = ([], ck)) := by unfold Hid; rw [hck]; exact bundleP_bad (hck ▸ hc0)
    replace hck := Lib.hid hck
    clear hc0
    go_enter Try.func33, Try.ntmps33
    go_wp2_with fail
    rw [← hW0]
    replace hW0 := Lib.hid hW0
    go_wp2_with (go_at_call 29; refine hca.out.mono ?_; rintro e w1 ⟨rfl, hb1⟩)
    go_ret2
    exact ⟨none, 0, by rw [hres.out]; rfl, by rw [hres.out]; exact parts_nil _, (hF0.out.later hb1).below⟩
end Go.Proofs.Ytpgkhlpepckfgaa
end
section
namespace Go.Proofs.Ytpgkhlpepckfgaa
open Go.RowKit Go.Lib

/-- The farm, the store and a name in their variables. -/
structure NX (w : World) (A : Option Addr) (c : Nat) (pl : List Plot) (dry : Int) (s : Store) (nm : ByteArray) (wr : World) : Prop extends FS w A c pl dry s wr where
  nmc : wr.heap[w.heap.size + 2]? = some (.cells #[.string nm] 9 (0, 0))
section
variable {w : World} {A : Option Addr} {c : Nat} {pl : List Plot} {dry : Int} {s : Store} {nm : ByteArray} {H : Heap} {x : Nat} {wr wx : World}
theorem NX.later (h : NX w A c pl dry s nm wr) (hb : Below wr.heap.size wr wx) : NX w A c pl dry s nm wx :=
  ⟨h.toFS.later hb, (hb.block _ (Array.getElem?_eq_some_iff.1 h.nmc).1).trans h.nmc⟩
theorem NX.cell (h : NX w A c pl dry s nm wr) : wr.cell? ⟨w.heap.size + 2, 0, none⟩ = some (.string nm) := by simp [World.cell?, h.nmc]
theorem NX.start : NX w A c pl dry s nm (((w.alloc (.cells #[.slice A pl.length c, .int .i64 dry] 24)).alloc (.cells (storeCells s) 43)).alloc (.cells #[.string nm] 9)) :=
  ⟨FS.start.later ((Below.refl _ _).alloc (Nat.le_refl _) _), heap_new _ _ _ (by simp)⟩
/-- And a heap. -/
structure HX (w : World) (A : Option Addr) (c : Nat) (pl : List Plot) (dry : Int) (s : Store) (nm : ByteArray) (H : Heap) (x : Nat) (wr : World) : Prop extends NX w A c pl dry s nm wr where
  hc : wr.heap[x]? = some (.cells (hcells H) 77 (0, 0))
theorem HX.later (h : HX w A c pl dry s nm H x wr) (hb : Below wr.heap.size wr wx) : HX w A c pl dry s nm H x wx :=
  ⟨h.toNX.later hb, (hb.block _ (Array.getElem?_eq_some_iff.1 h.hc).1).trans h.hc⟩
theorem HX.held (h : HX w A c pl dry s nm H x wr) : wr.cell? ⟨x, 3, none⟩ = some (.slice H.pa H.parts.length H.pc) ∧ wr.cell? ⟨x, 4, none⟩ = some (.int .i64 H.per) ∧ HX w A c pl dry s nm H x wr := by
  obtain ⟨m0, m1, m2, m3, m4, m5, m6⟩ := seven_cells h.hc
  exact ⟨m3, m4, h⟩
end

set_option maxHeartbeats 2000000 in
set_option maxRecDepth 100000 in
theorem bundle_any (A : Option Addr) (c : Nat) (pl : List Plot) (dry : Int) (s : Store) (nm : ByteArray) (k : Int) (w : World) (h : RdPlots w A pl) (hs : RdStore w s) (hu : s.used.length ≤ 1000000) (hw : s.waste.length ≤ 1000000) (hh : ∀ x ∈ s.heaps, x.parts.length ≤ 1000000) :
    Calls Try.prog 32 #[.agg #[.slice A pl.length c, .int .i64 dry], storeVal s, .string nm, .int .i64 k] w (BundOut (bundleP pl dry s nm k) w) := by
  obtain ⟨W0, hW0⟩ : ∃ W0, W0 = ((w.alloc (.cells #[.slice A pl.length c, .int .i64 dry] 24)).alloc (.cells (storeCells s) 43)).alloc (.cells #[.string nm] 9) := ⟨_, rfl⟩
  have hF0 : NX w A c pl dry s nm W0 := by rw [hW0]; exact NX.start
  have hmf := makeFunc_run
  have n0 := hF0.cell
  obtain ⟨d1, d2⟩ := hF0.cells
  obtain ⟨k0, k1, k2, k3, k4, k5⟩ := six_cells hF0.store
  have hz1 : w.heap.size + 1 < W0.heap.size := hF0.size
  have hz0 : w.heap.size < W0.heap.size := by omega
  replace hF0 := Lib.hid hF0
  have b3 := hs.heaps.1.1
  obtain ⟨ck, hck⟩ : ∃ ck, ck = checkS pl dry s := ⟨_, rfl⟩
  have hca := checkStore_any A c pl dry s W0 (h.below hF0.out.below) (hs.below hF0.out.below) hu hw hh
  rw [← hck] at hca
  replace hca := Lib.hid hca
  by_cases hc0 : ck = 0
  · subst hc0
    obtain ⟨i, hi⟩ : ∃ i, i = nameIdx nm s.heaps := ⟨_, rfl⟩
    have hat : ∀ W, RdStore W s → NX w A c pl dry s nm W → Calls Try.prog 66 #[.slice s.ha s.heaps.length s.hc, .func (.func 67) #[] #[ptr (w.heap.size + 2)]] W fun e w' => e = .returned (.int .i64 i) ∧ Below W.heap.size W w' := fun W hW hX => hi ▸ indexH_any s.ha s.hc s.heaps nm _ W hX.cell hW.heaps
    replace hat := Lib.hid hat
    have hrg := nameIdx_range nm s.heaps
    rw [← hi] at hrg
    obtain ⟨g1, g2⟩ := hrg
    by_cases hneg : i < 0
    · have hres := Lib.hid (bundleP_none (k := k) hck.symm (by rw [← hi]; exact hneg))
      replace hck := Lib.hid hck.symm
      replace hi := Lib.hid hi
      go_enter Try.func32, Try.ntmps32
      go_wp2_with fail
      rw [← hW0]
      replace hW0 := Lib.hid hW0
      go_wp2_with (first | (go_at_call 28; refine hca.out.mono ?_; rintro e w1 ⟨rfl, hb1⟩; have hF1 := Lib.hid (hF0.out.later hb1); obtain ⟨x0, x1, x2, x3, x4, x5⟩ := six_cells hF1.out.store; have n1 := hF1.out.cell) | (go_at_call 66; refine (hat.out _ (hs.below hF1.out.below) hF1.out).mono ?_; rintro e w2 ⟨rfl, hb2⟩))
      go_ret2
      refine ⟨none, 0, by rw [hres.out]; rfl, by rw [hres.out]; exact parts_nil _, (hF1.out.later hb2).below⟩
    · obtain ⟨j, hj⟩ : ∃ j : Nat, i = (j : Int) := ⟨i.toNat, by omega⟩
      subst hj
      have hjl : j < s.heaps.length := by omega
      have hHB := checkS_heap hck.symm hjl
      obtain ⟨hpr, hnm⟩ := hs.heaps.2 _ (List.getElem_mem hjl)
      have hplen := hh _ (List.getElem_mem hjl)
      obtain ⟨ah, hA, _⟩ := hs.heaps.1.at7 hjl rfl
      obtain ⟨ha, hha⟩ : ∃ x, x = s.ha := ⟨_, rfl⟩
      have hah : ha = some ah := hha.trans hA
      have hrow : Hid (∀ W, Below w.heap.size w W → ∃ ad, s.ha = some ad ∧ W.cell? (ad.add (j * 7)) = some (.string s.heaps[j].name) ∧ W.cell? ⟨(ad.add (j * 7)).block, (ad.add (j * 7)).off + 1, none⟩ = some (.int .i64 s.heaps[j].crop) ∧ W.cell? ⟨(ad.add (j * 7)).block, (ad.add (j * 7)).off + 2, none⟩ = some (.int .i64 s.heaps[j].stage) ∧ W.cell? ⟨(ad.add (j * 7)).block, (ad.add (j * 7)).off + 3, none⟩ = some (.slice s.heaps[j].pa s.heaps[j].parts.length s.heaps[j].pc) ∧ W.cell? ⟨(ad.add (j * 7)).block, (ad.add (j * 7)).off + 4, none⟩ = some (.int .i64 s.heaps[j].per) ∧ W.cell? ⟨(ad.add (j * 7)).block, (ad.add (j * 7)).off + 5, none⟩ = some (.int .i64 s.heaps[j].wet.lo) ∧ W.cell? ⟨(ad.add (j * 7)).block, (ad.add (j * 7)).off + 6, none⟩ = some (.int .i64 s.heaps[j].wet.hi)) := fun W hW => (FlatRow.below hs.heaps.1 hW).at7 hjl rfl
      have hb1' := bundleP_state (k := k) hck.symm hi.symm hjl
      have hb2' := bundleP_arg (k := k) hck.symm hi.symm hjl
      have hb3' := bundleP_ok (k := k) hck.symm hi.symm hjl
      obtain ⟨H, hH⟩ : ∃ H, H = s.heaps[j] := ⟨_, rfl⟩
      rw [← hH] at hHB hpr hnm hplen hb1' hb2' hb3'
      simp only [← hH] at hrow
      replace hH := Lib.hid hH
      have hpm := Lib.hid (proper_mild (heapB_proper hHB) hplen)
      have hah' : Hid (s.ha = some ah) := hA
      clear hha hA
      replace hah := Lib.hid hah
      obtain ⟨sm1, sm2⟩ := hpm.out.sum
      by_cases hst : H.stage = 3
      · obtain ⟨pe1, pe2⟩ := bound_per hHB hst
        have hsb : (H.stage != 3) = false := by rw [hst]; rfl
        replace hb2' := Lib.hid (hb2' hst)
        replace hb3' := Lib.hid (hb3' hst)
        replace hst := Lib.hid hst
        replace hHB := Lib.hid hHB
        replace hck := Lib.hid hck.symm
        replace hi := Lib.hid hi
        clear hb1'
        go_enter Try.func32, Try.ntmps32
        go_wp2_with fail
        rw [← hW0]
        replace hW0 := Lib.hid hW0
        go_wp2_with (first | (go_at_call 28; refine hca.out.mono ?_; rintro e w1 ⟨rfl, hb1⟩; have hF1 := Lib.hid (hF0.out.later hb1); obtain ⟨x0, x1, x2, x3, x4, x5⟩ := six_cells hF1.out.store; have n1 := hF1.out.cell) | (go_at_call 66; refine (hat.out _ (hs.below hF1.out.below) hF1.out).mono ?_; rintro e w2 ⟨rfl, hb2⟩; have hF2 := Lib.hid (hF1.out.later hb2); obtain ⟨_, _, _, z3, _, _⟩ := six_cells hF2.out.store; rw [hah'.out] at z3; obtain ⟨ad, e2, h0, h1, h2, h3, h4, h5, h6⟩ := hrow.out _ hF2.out.below; cases hah'.out.symm.trans e2; replace e2 := Lib.hid e2))
        obtain ⟨W3, hW3⟩ : ∃ W3, W3 = w2.alloc (.cells #[.string H.name, .int .i64 H.crop, .int .i64 H.stage, .slice H.pa H.parts.length H.pc, .int .i64 H.per, .int .i64 H.wet.lo, .int .i64 H.wet.hi] 77) := ⟨_, rfl⟩
        have hF3 : HX w A c pl dry s nm H w2.heap.size W3 := by rw [hW3]; exact ⟨hF2.out.later ((Below.refl _ w2).alloc (Nat.le_refl _) _), heap_new _ _ _ rfl⟩
        obtain ⟨m0, m1, m2, m3, m4, m5, m6⟩ := seven_cells (show W3.heap[w2.heap.size]? = some (.cells (hcells H) 77 (0, 0)) by rw [hW3]; exact heap_new _ _ _ rfl)
        rw [← hW3]
        have hbl : w2.heap.size < W3.heap.size := by rw [hW3]; simp
        replace hW3 := Lib.hid hW3
        replace hF3 := Lib.hid hF3
        clear h0 h1 h2 h3 h4 h5 h6 z3 x0 x1 x2 x3 x4 x5 d1 d2 k0 k1 k2 k3 k4 k5
        obtain ⟨sm, hsm⟩ : ∃ sm, sm = sumL H.parts := ⟨_, rfl⟩
        rw [← hsm] at sm1 sm2 hb2' hb3'
        have hq68 : ∀ W, HX w A c pl dry s nm H w2.heap.size W → Calls Try.prog 68 #[.slice H.pa H.parts.length H.pc] W fun e w' => e = .returned (.int .i64 sm) ∧ Below W.heap.size W w' := fun W hX => by rw [hsm]; exact sum_any _ _ _ _ (hpr.below hX.below) hpm.out
        have hq43 : ∀ x W, Calls Try.prog 43 #[.int .i64 k, .int .i64 0, .int .i64 x] W fun e w' => e = .returned (.bool (inB k 0 x)) ∧ w' = W := fun x W => (in_any _ _ _ _).mono fun _ _ ⟨a, b⟩ => ⟨a, b.symm⟩
        replace hsm := Lib.hid hsm
        replace hq68 := Lib.hid hq68
        replace hq43 := Lib.hid hq43
        have hp0 : H.per ≠ 0 := by omega
        have h3d : HX w A c pl dry s nm H w2.heap.size W3.drew := hF3.out.later ((Below.refl _ W3).drew)
        have S0 : Hid (W3.drew.cell? ⟨w2.heap.size, 3, none⟩ = some (.slice H.pa H.parts.length H.pc) ∧ W3.drew.cell? ⟨w2.heap.size, 4, none⟩ = some (.int .i64 H.per) ∧ HX w A c pl dry s nm H w2.heap.size W3.drew) := (hF3.out.later ((Below.refl _ W3).drew)).held
        go_region_held3 (fun wr => wr.cell? ⟨w2.heap.size, 3, none⟩ = some (.slice H.pa H.parts.length H.pc) ∧ wr.cell? ⟨w2.heap.size, 4, none⟩ = some (.int .i64 H.per) ∧ HX w A c pl dry s nm H w2.heap.size wr) (first | (with_reducible exact S0.out) | (with_reducible assumption) | (with_reducible exact (HX.later (by assumption) (by assumption)).held) | (with_reducible exact (by assumption : HX w A c pl dry s nm H w2.heap.size _).held)) (first | (go_at_call 43; (with_reducible refine (hq43.out _ _).mono ?_); rintro e w' ⟨rfl, rfl⟩) | (go_at_call 68; (with_reducible refine (hq68.out _ (by assumption)).mono ?_); rintro e w5 ⟨rfl, hb5⟩; have h5 : HX w A c pl dry s nm H w2.heap.size w5 := HX.later (by assumption) hb5))
        have hF4 : HX w A c pl dry s nm H w2.heap.size w' := by first | assumption | exact HX.later (by assumption) (by assumption)
        have hwr : IntKind.i64.wrap (IntKind.i64.wrap (sm.tdiv H.per) - 1) = sm / H.per - 1 := by
          have h1 : sm / H.per ≤ sm := Int.ediv_le_self _ sm1
          have h2 : 0 ≤ sm / H.per := Int.ediv_nonneg sm1 (by omega)
          rw [Int.tdiv_eq_ediv_of_nonneg sm1]
          rw [show IntKind.i64.wrap (sm / H.per) = sm / H.per from IntWalk.i64_in _ (by omega)]
          exact IntWalk.i64_in _ (by omega)
        cases htst : inB k 0 (IntKind.i64.wrap (IntKind.i64.wrap (sm.tdiv H.per) - 1))
        · rw [hwr] at htst
          have hres := Lib.hid (hb2'.out htst)
          clear hb2' hb3'
          go_wp2
          go_ret2
          refine ⟨none, 0, by rw [hres.out]; rfl, by rw [hres.out]; exact parts_nil _, hF4.below⟩
        · rw [hwr] at htst
          have hres := Lib.hid (hb3'.out htst)
          clear hb2' hb3'
          simp only [inB, Bool.and_eq_true, decide_eq_true_eq] at htst
          have hkp0 : 0 ≤ k * H.per := Int.mul_nonneg htst.1 (by omega)
          have hkp1 : k * H.per ≤ sm := by
            have h1 : k * H.per ≤ (sm / H.per) * H.per := Int.mul_le_mul_of_nonneg_right (by omega) (by omega)
            have h2 : sm / H.per * H.per ≤ sm := Int.ediv_mul_le sm (by omega)
            omega
          have hkw : wrap64 (k * H.per) = k * H.per := by
            generalize k * H.per = q at *
            unfold wrap64
            omega
          have hbl4 : w2.heap.size < w'.heap.size := (Array.getElem?_eq_some_iff.1 hF4.hc).1
          obtain ⟨m3', m4', _⟩ := hF4.held
          clear m0 m1 m2 m3 m4 m5 m6
          replace hF4 := Lib.hid hF4
          generalize hW4 : w' = W4 at hF4 hbl4 m3' m4' ⊢
          clear hW4
          have hr4 := hpr.below hF4.out.below
          have hc1 := Lib.hid (cut_any _ H.pc _ _ _ hr4 hpm.out ⟨hkp0, by omega⟩)
          have hc2 := fun W A c hW => Lib.hid (cut_any A c _ H.per W hW (hpm.out.cutR hkp0) ⟨by omega, by omega⟩)
          go_wp2_with (first | (go_at_call 69; refine hc2.out.mono ?_; rintro e w5 ⟨A3, c3, A4, c4, rfl, p3, p4, hb5⟩) | (go_at_call 69; refine hc1.out.mono ?_; rintro e w4 ⟨A1, c1, A2, c2, rfl, p1, p2, hb4⟩; have hF5 := Lib.hid (hF4.out.later hb4); have x4 := (hb4.cell (p := ⟨w2.heap.size, 4, none⟩) hbl4).trans m4'; replace hc2 := hc2 _ _ c2 p2))
          go_ret2
          exact ⟨A3, c3, by rw [hres.out]; rfl, by rw [hres.out]; exact p3, (hF5.out.later hb5).below⟩
      · have hsb : (H.stage != 3) = true := bne_iff_ne.2 hst
        have hres := Lib.hid (hb1' hst)
        replace hst := Lib.hid hst
        replace hHB := Lib.hid hHB
        replace hck := Lib.hid hck.symm
        replace hi := Lib.hid hi
        clear hb1' hb2' hb3'
        go_enter Try.func32, Try.ntmps32
        go_wp2_with fail
        rw [← hW0]
        replace hW0 := Lib.hid hW0
        go_wp2_with (first | (go_at_call 28; refine hca.out.mono ?_; rintro e w1 ⟨rfl, hb1⟩; have hF1 := Lib.hid (hF0.out.later hb1); obtain ⟨x0, x1, x2, x3, x4, x5⟩ := six_cells hF1.out.store; have n1 := hF1.out.cell) | (go_at_call 66; refine (hat.out _ (hs.below hF1.out.below) hF1.out).mono ?_; rintro e w2 ⟨rfl, hb2⟩; have hF2 := Lib.hid (hF1.out.later hb2); obtain ⟨_, _, _, z3, _, _⟩ := six_cells hF2.out.store; rw [hah'.out] at z3; obtain ⟨ad, e2, h0, h1, h2, h3, h4, h5, h6⟩ := hrow.out _ hF2.out.below; cases hah'.out.symm.trans e2; replace e2 := Lib.hid e2))
        go_ret2
        exact ⟨none, 0, by rw [hres.out]; rfl, by rw [hres.out]; exact parts_nil _, (hF2.out.later ((Below.refl _ w2).alloc (Nat.le_refl _) _)).below⟩
  · have hcb : (ck != 0) = true := bne_iff_ne.2 hc0
    have hres : Hid (bundleP pl dry s nm k = ([], ck)) := by unfold Hid; rw [hck]; exact bundleP_bad (hck ▸ hc0)
    replace hck := Lib.hid hck
    clear hc0
    go_enter Try.func32, Try.ntmps32
    go_wp2_with fail
    rw [← hW0]
    replace hW0 := Lib.hid hW0
    go_wp2_with (go_at_call 28; refine hca.out.mono ?_; rintro e w1 ⟨rfl, hb1⟩)
    go_ret2
    exact ⟨none, 0, by rw [hres.out]; rfl, by rw [hres.out]; exact parts_nil _, (hF0.out.later hb1).below⟩
end Go.Proofs.Ytpgkhlpepckfgaa
end
section
namespace Go.Proofs.Ytpgkhlpepckfgaa
open Go.RowKit Go.Lib

/-- What Bundle hands back, in a block that is new. -/
def BundOutF (r : List Portion × Int) (w : World) (e : Ending) (w' : World) : Prop := ∃ A c, e = .returned (.tuple #[.slice A r.1.length c, .int .i64 r.2]) ∧ RdParts w' A r.1 ∧ Below w.heap.size w w' ∧ ∀ k, blk A = some k → w.heap.size ≤ k
set_option maxHeartbeats 2000000 in
set_option maxRecDepth 100000 in
theorem bundleF_any (A : Option Addr) (c : Nat) (pl : List Plot) (dry : Int) (s : Store) (nm : ByteArray) (k : Int) (w : World) (h : RdPlots w A pl) (hs : RdStore w s) (hu : s.used.length ≤ 1000000) (hw : s.waste.length ≤ 1000000) (hh : ∀ x ∈ s.heaps, x.parts.length ≤ 1000000) :
    Calls Try.prog 32 #[.agg #[.slice A pl.length c, .int .i64 dry], storeVal s, .string nm, .int .i64 k] w (BundOutF (bundleP pl dry s nm k) w) := by
  obtain ⟨W0, hW0⟩ : ∃ W0, W0 = ((w.alloc (.cells #[.slice A pl.length c, .int .i64 dry] 24)).alloc (.cells (storeCells s) 43)).alloc (.cells #[.string nm] 9) := ⟨_, rfl⟩
  have hF0 : NX w A c pl dry s nm W0 := by rw [hW0]; exact NX.start
  have hmf := makeFunc_run
  have n0 := hF0.cell
  obtain ⟨d1, d2⟩ := hF0.cells
  obtain ⟨k0, k1, k2, k3, k4, k5⟩ := six_cells hF0.store
  have hz1 : w.heap.size + 1 < W0.heap.size := hF0.size
  have hz0 : w.heap.size < W0.heap.size := by omega
  replace hF0 := Lib.hid hF0
  have b3 := hs.heaps.1.1
  obtain ⟨ck, hck⟩ : ∃ ck, ck = checkS pl dry s := ⟨_, rfl⟩
  have hca := checkStore_any A c pl dry s W0 (h.below hF0.out.below) (hs.below hF0.out.below) hu hw hh
  rw [← hck] at hca
  replace hca := Lib.hid hca
  by_cases hc0 : ck = 0
  · subst hc0
    obtain ⟨i, hi⟩ : ∃ i, i = nameIdx nm s.heaps := ⟨_, rfl⟩
    have hat : ∀ W, RdStore W s → NX w A c pl dry s nm W → Calls Try.prog 66 #[.slice s.ha s.heaps.length s.hc, .func (.func 67) #[] #[ptr (w.heap.size + 2)]] W fun e w' => e = .returned (.int .i64 i) ∧ Below W.heap.size W w' := fun W hW hX => hi ▸ indexH_any s.ha s.hc s.heaps nm _ W hX.cell hW.heaps
    replace hat := Lib.hid hat
    have hrg := nameIdx_range nm s.heaps
    rw [← hi] at hrg
    obtain ⟨g1, g2⟩ := hrg
    by_cases hneg : i < 0
    · have hres := Lib.hid (bundleP_none (k := k) hck.symm (by rw [← hi]; exact hneg))
      replace hck := Lib.hid hck.symm
      replace hi := Lib.hid hi
      go_enter Try.func32, Try.ntmps32
      go_wp2_with fail
      rw [← hW0]
      replace hW0 := Lib.hid hW0
      go_wp2_with (first | (go_at_call 28; refine hca.out.mono ?_; rintro e w1 ⟨rfl, hb1⟩; have hF1 := Lib.hid (hF0.out.later hb1); obtain ⟨x0, x1, x2, x3, x4, x5⟩ := six_cells hF1.out.store; have n1 := hF1.out.cell) | (go_at_call 66; refine (hat.out _ (hs.below hF1.out.below) hF1.out).mono ?_; rintro e w2 ⟨rfl, hb2⟩))
      go_ret2
      refine ⟨none, 0, by rw [hres.out]; rfl, by rw [hres.out]; exact parts_nil _, (hF1.out.later hb2).below, fun k e => by cases e⟩
    · obtain ⟨j, hj⟩ : ∃ j : Nat, i = (j : Int) := ⟨i.toNat, by omega⟩
      subst hj
      have hjl : j < s.heaps.length := by omega
      have hHB := checkS_heap hck.symm hjl
      obtain ⟨hpr, hnm⟩ := hs.heaps.2 _ (List.getElem_mem hjl)
      have hplen := hh _ (List.getElem_mem hjl)
      obtain ⟨ah, hA, _⟩ := hs.heaps.1.at7 hjl rfl
      obtain ⟨ha, hha⟩ : ∃ x, x = s.ha := ⟨_, rfl⟩
      have hah : ha = some ah := hha.trans hA
      have hrow : Hid (∀ W, Below w.heap.size w W → ∃ ad, s.ha = some ad ∧ W.cell? (ad.add (j * 7)) = some (.string s.heaps[j].name) ∧ W.cell? ⟨(ad.add (j * 7)).block, (ad.add (j * 7)).off + 1, none⟩ = some (.int .i64 s.heaps[j].crop) ∧ W.cell? ⟨(ad.add (j * 7)).block, (ad.add (j * 7)).off + 2, none⟩ = some (.int .i64 s.heaps[j].stage) ∧ W.cell? ⟨(ad.add (j * 7)).block, (ad.add (j * 7)).off + 3, none⟩ = some (.slice s.heaps[j].pa s.heaps[j].parts.length s.heaps[j].pc) ∧ W.cell? ⟨(ad.add (j * 7)).block, (ad.add (j * 7)).off + 4, none⟩ = some (.int .i64 s.heaps[j].per) ∧ W.cell? ⟨(ad.add (j * 7)).block, (ad.add (j * 7)).off + 5, none⟩ = some (.int .i64 s.heaps[j].wet.lo) ∧ W.cell? ⟨(ad.add (j * 7)).block, (ad.add (j * 7)).off + 6, none⟩ = some (.int .i64 s.heaps[j].wet.hi)) := fun W hW => (FlatRow.below hs.heaps.1 hW).at7 hjl rfl
      have hb1' := bundleP_state (k := k) hck.symm hi.symm hjl
      have hb2' := bundleP_arg (k := k) hck.symm hi.symm hjl
      have hb3' := bundleP_ok (k := k) hck.symm hi.symm hjl
      obtain ⟨H, hH⟩ : ∃ H, H = s.heaps[j] := ⟨_, rfl⟩
      rw [← hH] at hHB hpr hnm hplen hb1' hb2' hb3'
      simp only [← hH] at hrow
      replace hH := Lib.hid hH
      have hpm := Lib.hid (proper_mild (heapB_proper hHB) hplen)
      have hah' : Hid (s.ha = some ah) := hA
      clear hha hA
      replace hah := Lib.hid hah
      obtain ⟨sm1, sm2⟩ := hpm.out.sum
      by_cases hst : H.stage = 3
      · obtain ⟨pe1, pe2⟩ := bound_per hHB hst
        have hsb : (H.stage != 3) = false := by rw [hst]; rfl
        replace hb2' := Lib.hid (hb2' hst)
        replace hb3' := Lib.hid (hb3' hst)
        replace hst := Lib.hid hst
        replace hHB := Lib.hid hHB
        replace hck := Lib.hid hck.symm
        replace hi := Lib.hid hi
        clear hb1'
        go_enter Try.func32, Try.ntmps32
        go_wp2_with fail
        rw [← hW0]
        replace hW0 := Lib.hid hW0
        go_wp2_with (first | (go_at_call 28; refine hca.out.mono ?_; rintro e w1 ⟨rfl, hb1⟩; have hF1 := Lib.hid (hF0.out.later hb1); obtain ⟨x0, x1, x2, x3, x4, x5⟩ := six_cells hF1.out.store; have n1 := hF1.out.cell) | (go_at_call 66; refine (hat.out _ (hs.below hF1.out.below) hF1.out).mono ?_; rintro e w2 ⟨rfl, hb2⟩; have hF2 := Lib.hid (hF1.out.later hb2); obtain ⟨_, _, _, z3, _, _⟩ := six_cells hF2.out.store; rw [hah'.out] at z3; obtain ⟨ad, e2, h0, h1, h2, h3, h4, h5, h6⟩ := hrow.out _ hF2.out.below; cases hah'.out.symm.trans e2; replace e2 := Lib.hid e2))
        obtain ⟨W3, hW3⟩ : ∃ W3, W3 = w2.alloc (.cells #[.string H.name, .int .i64 H.crop, .int .i64 H.stage, .slice H.pa H.parts.length H.pc, .int .i64 H.per, .int .i64 H.wet.lo, .int .i64 H.wet.hi] 77) := ⟨_, rfl⟩
        have hF3 : HX w A c pl dry s nm H w2.heap.size W3 := by rw [hW3]; exact ⟨hF2.out.later ((Below.refl _ w2).alloc (Nat.le_refl _) _), heap_new _ _ _ rfl⟩
        obtain ⟨m0, m1, m2, m3, m4, m5, m6⟩ := seven_cells (show W3.heap[w2.heap.size]? = some (.cells (hcells H) 77 (0, 0)) by rw [hW3]; exact heap_new _ _ _ rfl)
        rw [← hW3]
        have hbl : w2.heap.size < W3.heap.size := by rw [hW3]; simp
        replace hW3 := Lib.hid hW3
        replace hF3 := Lib.hid hF3
        clear h0 h1 h2 h3 h4 h5 h6 z3 x0 x1 x2 x3 x4 x5 d1 d2 k0 k1 k2 k3 k4 k5
        obtain ⟨sm, hsm⟩ : ∃ sm, sm = sumL H.parts := ⟨_, rfl⟩
        rw [← hsm] at sm1 sm2 hb2' hb3'
        have hq68 : ∀ W, HX w A c pl dry s nm H w2.heap.size W → Calls Try.prog 68 #[.slice H.pa H.parts.length H.pc] W fun e w' => e = .returned (.int .i64 sm) ∧ Below W.heap.size W w' := fun W hX => by rw [hsm]; exact sum_any _ _ _ _ (hpr.below hX.below) hpm.out
        have hq43 : ∀ x W, Calls Try.prog 43 #[.int .i64 k, .int .i64 0, .int .i64 x] W fun e w' => e = .returned (.bool (inB k 0 x)) ∧ w' = W := fun x W => (in_any _ _ _ _).mono fun _ _ ⟨a, b⟩ => ⟨a, b.symm⟩
        replace hsm := Lib.hid hsm
        replace hq68 := Lib.hid hq68
        replace hq43 := Lib.hid hq43
        have hp0 : H.per ≠ 0 := by omega
        have h3d : HX w A c pl dry s nm H w2.heap.size W3.drew := hF3.out.later ((Below.refl _ W3).drew)
        have S0 : Hid (W3.drew.cell? ⟨w2.heap.size, 3, none⟩ = some (.slice H.pa H.parts.length H.pc) ∧ W3.drew.cell? ⟨w2.heap.size, 4, none⟩ = some (.int .i64 H.per) ∧ HX w A c pl dry s nm H w2.heap.size W3.drew) := (hF3.out.later ((Below.refl _ W3).drew)).held
        go_region_held3 (fun wr => wr.cell? ⟨w2.heap.size, 3, none⟩ = some (.slice H.pa H.parts.length H.pc) ∧ wr.cell? ⟨w2.heap.size, 4, none⟩ = some (.int .i64 H.per) ∧ HX w A c pl dry s nm H w2.heap.size wr) (first | (with_reducible exact S0.out) | (with_reducible assumption) | (with_reducible exact (HX.later (by assumption) (by assumption)).held) | (with_reducible exact (by assumption : HX w A c pl dry s nm H w2.heap.size _).held)) (first | (go_at_call 43; (with_reducible refine (hq43.out _ _).mono ?_); rintro e w' ⟨rfl, rfl⟩) | (go_at_call 68; (with_reducible refine (hq68.out _ (by assumption)).mono ?_); rintro e w5 ⟨rfl, hb5⟩; have h5 : HX w A c pl dry s nm H w2.heap.size w5 := HX.later (by assumption) hb5))
        have hF4 : HX w A c pl dry s nm H w2.heap.size w' := by first | assumption | exact HX.later (by assumption) (by assumption)
        have hwr : IntKind.i64.wrap (IntKind.i64.wrap (sm.tdiv H.per) - 1) = sm / H.per - 1 := by
          have h1 : sm / H.per ≤ sm := Int.ediv_le_self _ sm1
          have h2 : 0 ≤ sm / H.per := Int.ediv_nonneg sm1 (by omega)
          rw [Int.tdiv_eq_ediv_of_nonneg sm1]
          rw [show IntKind.i64.wrap (sm / H.per) = sm / H.per from IntWalk.i64_in _ (by omega)]
          exact IntWalk.i64_in _ (by omega)
        cases htst : inB k 0 (IntKind.i64.wrap (IntKind.i64.wrap (sm.tdiv H.per) - 1))
        · rw [hwr] at htst
          have hres := Lib.hid (hb2'.out htst)
          clear hb2' hb3'
          go_wp2
          go_ret2
          refine ⟨none, 0, by rw [hres.out]; rfl, by rw [hres.out]; exact parts_nil _, hF4.below, fun k e => by cases e⟩
        · rw [hwr] at htst
          have hres := Lib.hid (hb3'.out htst)
          clear hb2' hb3'
          simp only [inB, Bool.and_eq_true, decide_eq_true_eq] at htst
          have hkp0 : 0 ≤ k * H.per := Int.mul_nonneg htst.1 (by omega)
          have hkp1 : k * H.per ≤ sm := by
            have h1 : k * H.per ≤ (sm / H.per) * H.per := Int.mul_le_mul_of_nonneg_right (by omega) (by omega)
            have h2 : sm / H.per * H.per ≤ sm := Int.ediv_mul_le sm (by omega)
            omega
          have hkw : wrap64 (k * H.per) = k * H.per := by
            generalize k * H.per = q at *
            unfold wrap64
            omega
          have hbl4 : w2.heap.size < w'.heap.size := (Array.getElem?_eq_some_iff.1 hF4.hc).1
          obtain ⟨m3', m4', _⟩ := hF4.held
          clear m0 m1 m2 m3 m4 m5 m6
          replace hF4 := Lib.hid hF4
          generalize hW4 : w' = W4 at hF4 hbl4 m3' m4' ⊢
          clear hW4
          have hr4 := hpr.below hF4.out.below
          have hc1 := Lib.hid (cut_any _ H.pc _ _ _ hr4 hpm.out ⟨hkp0, by omega⟩)
          have hc2 := fun W A c hW => Lib.hid (cut_fresh A c _ H.per W hW (hpm.out.cutR hkp0) ⟨by omega, by omega⟩)
          go_wp2_with (first | (go_at_call 69; refine hc2.out.mono ?_; rintro e w5 ⟨A3, c3, A4, c4, rfl, p3, p4, hb5, hfr3, _⟩) | (go_at_call 69; refine hc1.out.mono ?_; rintro e w4 ⟨A1, c1, A2, c2, rfl, p1, p2, hb4⟩; have hF5 := Lib.hid (hF4.out.later hb4); have x4 := (hb4.cell (p := ⟨w2.heap.size, 4, none⟩) hbl4).trans m4'; replace hc2 := hc2 _ _ c2 p2))
          go_ret2
          exact ⟨A3, c3, by rw [hres.out]; rfl, by rw [hres.out]; exact p3, (hF5.out.later hb5).below, fun k e => Nat.le_trans hF5.out.below.size (hfr3 k e)⟩
      · have hsb : (H.stage != 3) = true := bne_iff_ne.2 hst
        have hres := Lib.hid (hb1' hst)
        replace hst := Lib.hid hst
        replace hHB := Lib.hid hHB
        replace hck := Lib.hid hck.symm
        replace hi := Lib.hid hi
        clear hb1' hb2' hb3'
        go_enter Try.func32, Try.ntmps32
        go_wp2_with fail
        rw [← hW0]
        replace hW0 := Lib.hid hW0
        go_wp2_with (first | (go_at_call 28; refine hca.out.mono ?_; rintro e w1 ⟨rfl, hb1⟩; have hF1 := Lib.hid (hF0.out.later hb1); obtain ⟨x0, x1, x2, x3, x4, x5⟩ := six_cells hF1.out.store; have n1 := hF1.out.cell) | (go_at_call 66; refine (hat.out _ (hs.below hF1.out.below) hF1.out).mono ?_; rintro e w2 ⟨rfl, hb2⟩; have hF2 := Lib.hid (hF1.out.later hb2); obtain ⟨_, _, _, z3, _, _⟩ := six_cells hF2.out.store; rw [hah'.out] at z3; obtain ⟨ad, e2, h0, h1, h2, h3, h4, h5, h6⟩ := hrow.out _ hF2.out.below; cases hah'.out.symm.trans e2; replace e2 := Lib.hid e2))
        go_ret2
        exact ⟨none, 0, by rw [hres.out]; rfl, by rw [hres.out]; exact parts_nil _, (hF2.out.later ((Below.refl _ w2).alloc (Nat.le_refl _) _)).below, fun k e => by cases e⟩
  · have hcb : (ck != 0) = true := bne_iff_ne.2 hc0
    have hres : Hid (bundleP pl dry s nm k = ([], ck)) := by unfold Hid; rw [hck]; exact bundleP_bad (hck ▸ hc0)
    replace hck := Lib.hid hck
    clear hc0
    go_enter Try.func32, Try.ntmps32
    go_wp2_with fail
    rw [← hW0]
    replace hW0 := Lib.hid hW0
    go_wp2_with (go_at_call 28; refine hca.out.mono ?_; rintro e w1 ⟨rfl, hb1⟩)
    go_ret2
    exact ⟨none, 0, by rw [hres.out]; rfl, by rw [hres.out]; exact parts_nil _, (hF0.out.later hb1).below, fun k e => by cases e⟩
end Go.Proofs.Ytpgkhlpepckfgaa
end
