/-
  The ledger, as the specification has it: walked.
-/
import Derived.Test.YtpgkhlpepckfgaaXa20
import Derived.Deep.RegionHeld3
import Derived.Outline
set_option linter.all false
set_option linter.unusedVariables false
set_option linter.unusedSimpArgs false
namespace Go.Proofs.Ytpgkhlpepckfgaa
open Go.RowKit Go.Lib

theorem FS.heldG {w wr : World} {A : Option Addr} {c : Nat} {pl : List Plot} {dry : Int} {s : Store} (h : FS w A c pl dry s wr) {a : Addr} {x : Int} {G : Option Addr} (hG : G = s.ga) (h1 : a.block < w.heap.size) (h3 : w.cell? a = some (.int .i64 x)) :
    wr.cell? ⟨w.heap.size + 1, 0, none⟩ = some (.int .i64 s.year) ∧ wr.cell? ⟨w.heap.size + 1, 1, none⟩ = some (.slice s.la s.last.length s.lc) ∧ wr.cell? ⟨w.heap.size + 1, 2, none⟩ = some (.slice G s.given.length s.gc) ∧ wr.cell? ⟨w.heap.size + 1, 3, none⟩ = some (.slice s.ha s.heaps.length s.hc) ∧ wr.cell? ⟨w.heap.size + 1, 4, none⟩ = some (.slice s.ua s.used.length s.uc) ∧ wr.cell? ⟨w.heap.size + 1, 5, none⟩ = some (.slice s.wa s.waste.length s.wc) ∧
      wr.cell? a = some (.int .i64 x) ∧ FS w A c pl dry s wr := by
  subst hG
  obtain ⟨x0, x1, x2, x3, x4, x5⟩ := six_cells h.store
  exact ⟨x0, x1, x2, x3, x4, x5, (h.below.cell h1).trans h3, h⟩

set_option maxHeartbeats 2000000 in
set_option maxRecDepth 100000 in
theorem rledger_any (A : Option Addr) (c : Nat) (pl : List Plot) (dry : Int) (s : Store) (w : World) (h : RdPlots w A pl) (hs : RdStore w s) (hu : s.used.length ≤ 1000000) (hw : s.waste.length ≤ 1000000) (hh : ∀ x ∈ s.heaps, x.parts.length ≤ 1000000) :
    Calls Try.prog 31 #[.agg #[.slice A pl.length c, .int .i64 dry], storeVal s] w (LedOut (ledP pl dry s) w) := by
  obtain ⟨W0, hW0⟩ : ∃ W0, W0 = (w.alloc (.cells #[.slice A pl.length c, .int .i64 dry] 24)).alloc (.cells (storeCells s) 43) := ⟨_, rfl⟩
  have hF0 : FS w A c pl dry s W0 := by rw [hW0]; exact FS.start
  obtain ⟨d1, d2⟩ := hF0.cells
  obtain ⟨k0, k1, k2, k3, k4, k5⟩ := six_cells hF0.store
  have hz1 : w.heap.size + 1 < W0.heap.size := hF0.size
  have hz0 : w.heap.size < W0.heap.size := by omega
  replace hF0 := Lib.hid hF0
  obtain ⟨ck, hck⟩ : ∃ ck, ck = checkS pl dry s := ⟨_, rfl⟩
  have hca := rcheckStore_any A c pl dry s W0 (h.below hF0.out.below) (hs.below hF0.out.below) hu hw hh
  rw [← hck] at hca
  replace hca := Lib.hid hca
  by_cases hc0 : ck = 0
  · subst hc0
    have hG := good_store hck.symm hu hw hh
    have hres := Lib.hid (ledP_ok hck.symm)
    have hp12 := hG.plots
    replace hG := Lib.hid hG
    replace hck := Lib.hid hck.symm
    go_enter Try.func31, Try.ntmps31
    go_wp2_with fail
    rw [← hW0]
    replace hW0 := Lib.hid hW0
    go_wp2_with (go_at_call 29; refine hca.out.mono ?_; rintro e w1 ⟨rfl, hb1⟩; have hF1 := Lib.hid (hF0.out.later hb1))
    clear d1 d2 k0 k1 k2 k3 k4 k5
    go_loopw [7, 8] (fun v i wr => ∃ (k : Nat) (v' : Value), v = v' ∧ i = .int .i64 k ∧ k ≤ pl.length ∧ Hid (LedI w A c pl dry s k v' wr)) (fun _ i _ => pl.length - (intOf i).toNat)
    case atStart => exact ⟨0, _, rfl, rfl, Nat.zero_le _, ⟨hF1.out, CRow.nil _ _⟩⟩
    case round =>
      obtain ⟨k, v, rfl, rfl, hk, hL⟩ := hrel
      obtain ⟨d1, d2⟩ := hL.out.toFS.cells
      by_cases hlt : k < pl.length
      · have hjg : k < s.given.length := by rw [hG.out.given]; exact hlt
        obtain ⟨ag, hag, gg⟩ := FlatRow.at1 hs.given hjg rfl
        have hcl0 := cntsL_len s k
        have hcA : cntAt s k = ⟨s.given[k], ofL s.used k, leftL s.heaps k, ofL s.waste k⟩ := by unfold cntAt; rw [getD_lt _ hjg]
        obtain ⟨gj, hgj⟩ : ∃ gj, gj = s.given[k] := ⟨_, rfl⟩
        rw [← hgj] at gg hcA
        have zg := World.block_lt_of_cell? w _ gg
        have hag' : Hid (some ag = s.ga) := hag.symm
        replace gg := Lib.hid gg
        clear hgj hag
        obtain ⟨lf, hlf⟩ : ∃ lf, lf = leftL s.heaps k := ⟨_, rfl⟩
        obtain ⟨of1, hof1⟩ : ∃ x, x = ofL s.used k := ⟨_, rfl⟩
        obtain ⟨of2, hof2⟩ : ∃ x, x = ofL s.waste k := ⟨_, rfl⟩
        rw [← hlf, ← hof1, ← hof2] at hcA
        have hcl : ∀ W, LedI w A c pl dry s k u7 W → Calls Try.prog 65 #[.agg #[.int .i64 s.year, .slice s.la s.last.length s.lc, .slice (some ag) s.given.length s.gc, .slice s.ha s.heaps.length s.hc, .slice s.ua s.used.length s.uc, .slice s.wa s.waste.length s.wc], .int .i64 k] W fun e w' => e = .returned (.int .i64 lf) ∧ Below W.heap.size W w' := fun W hW => by
          rw [hag'.out, hlf]; exact left_any s k W (hs.below hW.below) hG.out.heaps
        have hc1 : ∀ W, LedI w A c pl dry s k u7 W → Calls Try.prog 64 #[.slice s.ua s.used.length s.uc, .int .i64 k] W fun e w' => e = .returned (.int .i64 of1) ∧ W = w' := fun W hW => hof1 ▸ of_any _ _ s.used k W (hs.used.below hW.below) hG.out.used
        have hc2 : ∀ W, LedI w A c pl dry s k u7 W → Calls Try.prog 64 #[.slice s.wa s.waste.length s.wc, .int .i64 k] W fun e w' => e = .returned (.int .i64 of2) ∧ W = w' := fun W hW => hof2 ▸ of_any _ _ s.waste k W (hs.waste.below hW.below) hG.out.waste
        replace hcl := Lib.hid hcl
        replace hc1 := Lib.hid hc1
        replace hc2 := Lib.hid hc2
        replace hlf := Lib.hid hlf
        replace hof1 := Lib.hid hof1
        replace hof2 := Lib.hid hof2
        replace hcA := Lib.hid hcA
        have hm1 : Hid ((cntsL s k).length + 1 ≤ maxLen) := by unfold Hid maxLen; omega
        have hm2 : Hid (((cntsL s k).length + 1) * 32 ≤ 140737488355328) := by unfold Hid; omega
        obtain ⟨i0, hi0, hz0', hs0, hb0⟩ := info_parts info55
        go_wp2
        have hd : LedI w A c pl dry s k u7 wr.drew := hL.out.later ((Below.refl _ wr).drew)
        have S0 := Lib.hid (hd.toFS.heldG hag'.out zg gg.out)
        go_region_held3 (fun w' => w'.cell? ⟨w.heap.size + 1, 0, none⟩ = some (.int .i64 s.year) ∧ w'.cell? ⟨w.heap.size + 1, 1, none⟩ = some (.slice s.la s.last.length s.lc) ∧ w'.cell? ⟨w.heap.size + 1, 2, none⟩ = some (.slice (some ag) s.given.length s.gc) ∧ w'.cell? ⟨w.heap.size + 1, 3, none⟩ = some (.slice s.ha s.heaps.length s.hc) ∧ w'.cell? ⟨w.heap.size + 1, 4, none⟩ = some (.slice s.ua s.used.length s.uc) ∧ w'.cell? ⟨w.heap.size + 1, 5, none⟩ = some (.slice s.wa s.waste.length s.wc) ∧ w'.cell? (ag.add k) = some (.int .i64 gj) ∧ FS w A c pl dry s w') (first | (with_reducible exact S0.out) | (with_reducible assumption) | (with_reducible exact (by assumption : LedI w A c pl dry s (k + 1) _ _).toFS.heldG hag'.out zg gg.out) | (with_reducible exact (by assumption : LedI w A c pl dry s k u7 _).toFS.heldG hag'.out zg gg.out) | exact (LedI.later (by assumption : LedI w A c pl dry s k u7 _) ((Below.refl _ _).alloc (Nat.le_refl _) _)).toFS.heldG hag'.out zg gg.out) (first | (go_at_call 64; first | ((with_reducible refine (hc1.out _ (by assumption)).mono ?_); rintro e w' ⟨rfl, rfl⟩) | ((with_reducible refine (hc2.out _ (by assumption)).mono ?_); rintro e w' ⟨rfl, rfl⟩)) | (go_at_call 65; (with_reducible refine (hcl.out _ (by assumption)).mono ?_); rintro e w6 ⟨rfl, hb6⟩; have hL6 : LedI w A c pl dry s k u7 w6 := LedI.later (by assumption) hb6) | (refine step_append_lies _ rfl (.tmp 22) (.tmp 40) 51 rfl (w.heap.size + 2) 55 i0 (.agg #[.int .i64 0, .int .i64 0, .int .i64 0, .int .i64 0]) 4 32 Try.underlying51 hi0 hz0' hs0 hb0 rfl (by decide) u7 (cntsL s k).length ((cntsL s k).flatMap encCnt) (by simp [Act.eval]) (LedI.arow (by assumption)) _ 1 1 (encCnt ⟨gj, of1, lf, of2⟩) (by simp [Act.eval]) rfl (new_four _ _) (by simp [encCnt, Value.oneCell']) (by decide) hm1.out hm2.out (LedI.base (by assumption : LedI w A c pl dry s k u7 _)) _ rfl ?_; intro g cap w1 hown hgrow hnear hlt1; have hP : LedI w A c pl dry s (k + 1) (.slice (some ⟨g, 0, none⟩) ((cntsL s k).length + 1) cap) w1 := LedI.push' (by assumption) hcA.out hown hgrow; clear hown hgrow hnear hlt1))
        all_goals
          have hP := Lib.hid (by assumption : LedI w A c pl dry s (k + 1) _ _)
          rw [hcl0] at hP ⊢
          go_wp2
          exact ⟨⟨k + 1, _, rfl, by go_num, by omega, hP⟩, by simp only [intOf]; omega⟩
      · have hke : k = pl.length := by omega
        subst hke
        obtain ⟨A1, c1, hv, H1⟩ := hL.out.row.reads (by rw [cntsL_len]; omega)
        subst hv
        go_wp2
        go_ret2
        exact ⟨A1, c1, by rw [hres.out]; rfl, by rw [hres.out]; exact H1, hL.out.below⟩
  · have hcb : (ck != 0) = true := bne_iff_ne.2 hc0
    have hres : Hid (ledP pl dry s = ([], ck)) := by unfold Hid; rw [hck]; exact ledP_bad (hck ▸ hc0)
    replace hck := Lib.hid hck
    clear hc0
    go_enter Try.func31, Try.ntmps31
    go_wp2_with fail
    rw [← hW0]
    replace hW0 := Lib.hid hW0
    go_wp2_with (go_at_call 29; refine hca.out.mono ?_; rintro e w1 ⟨rfl, hb1⟩)
    go_ret2
    exact ⟨none, 0, by rw [hres.out]; rfl, by rw [hres.out]; exact cnts_nil _, (hF0.out.later hb1).below⟩
end Go.Proofs.Ytpgkhlpepckfgaa
