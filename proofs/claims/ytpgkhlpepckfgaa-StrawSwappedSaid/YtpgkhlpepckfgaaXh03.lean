/-
  What straw.Run does: walked. The law's store behind chores, walked.
-/
import Derived.Test.YtpgkhlpepckfgaaXa17
import Derived.Test.YtpgkhlpepckfgaaXh00
import Derived.Test.YtpgkhlpepckfgaaXh02
import Derived.Deep.DeepCutAuto
import Derived.Shelf.RegionOpen
set_option linter.all false
set_option linter.unusedVariables false
set_option linter.unusedSimpArgs false
section
namespace Go.Proofs.Ytpgkhlpepckfgaa
open Go.RowKit Go.Lib

set_option maxHeartbeats 2000000 in
set_option maxRecDepth 100000 in
theorem run_any (A : Option Addr) (c : Nat) (pl : List Plot) (dry : Int) (s : Store) (B : Option Addr) (cb : Nat) (l : List Chore) (w : World) (h : RdPlots w A pl) (hs : RdStore w s) (hl : RdChores w B l) (hu : s.used.length ≤ 1000000) (hw : s.waste.length ≤ 1000000) (hh : ∀ x ∈ s.heaps, x.parts.length ≤ 1000000) :
    Calls Try.prog 38 #[.agg #[.slice A pl.length c, .int .i64 dry], storeVal s, .slice B l.length cb] w (RunOut (runP pl dry s l) w) := by
  have hlen := hl.1.1
  obtain ⟨W0, hW0⟩ : ∃ W0, W0 = (((w.alloc (.cells #[.slice A pl.length c, .int .i64 dry] 24)).alloc (.cells (storeCells s) 43)).alloc (.cells (storeCells noStore) 43)) := ⟨_, rfl⟩
  have hX0 : Hid (RnX w A c pl dry s noStore W0) := by rw [hW0]; exact RnX.make
  have hck : Hid (∀ W, RnX w A c pl dry s noStore W → Calls Try.prog 28 #[.agg #[.slice A pl.length c, .int .i64 dry], storeVal s] W fun e w' => e = .returned (.int .i64 (checkS pl dry s)) ∧ Below W.heap.size W w') := fun W hW => checkStore_any A c pl dry s W (h.below hW.below) (hs.below hW.below) hu hw hh
  obtain ⟨ck, hckE⟩ : ∃ ck, ck = checkS pl dry s := ⟨_, rfl⟩
  rw [← hckE] at hck
  obtain ⟨p0, p1⟩ := cells2 hX0.out.farm
  obtain ⟨k0, k1, k2, k3, k4, k5⟩ := six_cells hX0.out.store
  go_enter Try.func38, Try.ntmps38
  go_upto_region 1 with fail
  unfold storeCells noStore at hW0
  simp only [List.length_nil] at hW0
  rw [← hW0]
  replace hW0 := Lib.hid hW0
  by_cases h0 : ck = 0
  · subst h0
    have h0b : ((0 : Int) != 0) = false := rfl
    by_cases h2 : 200 < l.length
    · have hr : Hid (runP pl dry s l = (noStore, 0, 3)) := by unfold Hid runP; rw [← hckE, if_neg (by decide), if_pos h2]
      replace hckE := Lib.hid hckE
      go_wp2_with (first | (go_at_call 28; (with_reducible refine (hck.out _ hX0.out).mono ?_); rintro e w1 ⟨rfl, hb1⟩; have hX1 := Lib.hid (hX0.out.later hb1); obtain ⟨m0, m1, m2, m3, m4, m5⟩ := six_cells hX1.out.after; have hfr : ∀ j, w1.frozen? ⟨w.heap.size + 1 + 1, j, none⟩ = false := (fun j => frozen_of_row w1 _ j _ _ hX1.out.after); have f0 := hfr 0; have f1 := hfr 1; have f2 := hfr 2; have f3 := hfr 3; have f4 := hfr 4; have f5 := hfr 5; clear hfr))
      exact hX1.out.wrong hr.out Try.results38 rfl rfl rfl
    · have hr : Hid (runP pl dry s l = runL pl dry s l) := by unfold Hid runP; rw [← hckE, if_neg (by decide), if_neg h2]
      have htw : Hid (∀ W, RnX w A c pl dry s noStore W → Calls Try.prog 76 #[storeVal s] W fun e w' => ∃ t, e = .returned (storeVal t) ∧ SameC t s ∧ RdStore w' t ∧ Below W.heap.size W w' ∧ FreshS W.heap.size t) := fun W hW => twinC_any pl dry s W (hs.below hW.below) hckE.symm hu hw hh
      replace hckE := Lib.hid hckE
      go_wp2_with (first | (go_at_call 28; (with_reducible refine (hck.out _ hX0.out).mono ?_); rintro e w1 ⟨rfl, hb1⟩; have hX1 := Lib.hid (hX0.out.later hb1); obtain ⟨m0, m1, m2, m3, m4, m5⟩ := six_cells hX1.out.store))
      go_at_call 76
      (with_reducible refine (htw.out _ hX1.out).mono ?_)
      rintro e w2 ⟨t, rfl, hst, hrt, hb2, hft⟩
      have hX2 := Lib.hid (hX1.out.later hb2)
      have hfr : ∀ j, w2.frozen? ⟨w.heap.size + 1 + 1, j, none⟩ = false := fun j => frozen_of_row w2 _ j _ _ hX2.out.after
      have f0 := hfr 0
      have f1 := hfr 1
      have f2 := hfr 2
      have f3 := hfr 3
      have f4 := hfr 4
      have f5 := hfr 5
      clear hfr p0 p1 k0 k1 k2 k3 k4 k5 m0 m1 m2 m3 m4 m5 hck htw
      obtain ⟨m0, m1, m2, m3, m4, m5⟩ := six_cells hX2.out.after
      have hz1 := hX1.out.size
      obtain ⟨w3, hw3⟩ : ∃ x, x = putS w2 (w.heap.size + 1 + 1) t := ⟨_, rfl⟩
      have hX3 : Hid (RnX w A c pl dry s t w3) := by rw [hw3]; exact hX2.out.put hrt hz1 hft
      replace hst := Lib.hid hst
      replace hrt := Lib.hid hrt
      replace hft := Lib.hid hft
      go_upto_region 4 with fail
      unfold putS at hw3
      rw [← hw3]
      clear f0 f1 f2 f3 f4 f5 m0 m1 m2 m3 m4 m5
      replace hw3 := Lib.hid hw3
      go_wp2_with fail
      go_loopw [29] (fun i wr => ∃ (k : Nat) (t u : Store), i = .int .i64 (k : Int) ∧ k ≤ l.length ∧ Hid (SameC t u) ∧ Hid (RunI pl dry s l k u) ∧ Hid (RnX w A c pl dry s t wr)) (fun i _ => l.length - (intOf i).toNat)
      case atStart => exact ⟨0, t, s, rfl, Nat.zero_le _, hst, ⟨by simp, hckE.out.symm⟩, hX3⟩
      case round =>
        obtain ⟨k, t', u, rfl, hk, hsu, hI, hX⟩ := hrel
        by_cases hlt : k < l.length
        · obtain ⟨ad, hA, x0, x1, x2, x3, x4, x5, x6, x7, x8⟩ := (hl.1.below hX.out.below).at9 hlt rfl
          obtain ⟨a, ha⟩ : ∃ a, a = l[k] := ⟨_, rfl⟩
          obtain ⟨wn, wo, wk⟩ := hl.2 _ (List.getElem_mem hlt)
          rw [← ha] at x0 x1 x2 x3 x4 x5 x6 x7 x8 wn wo wk
          subst hA
          obtain ⟨lu, lw, lh⟩ := hI.out.lens hsu.out
          obtain ⟨r, hrr⟩ : ∃ r, r = doP pl dry t' a := ⟨_, rfl⟩
          have c35 : Hid (∀ W, RnX w A c pl dry s t' W → Calls Try.prog 35 #[.agg #[.slice A pl.length c, .int .i64 dry], storeVal t', choreVal a] W (DoOut r W)) := fun W hW => hrr ▸ do_any A c pl dry t' a W (h.below hW.below) hW.rd lu lw lh wn wo wk
          replace ha := Lib.hid ha
          replace hrr := Lib.hid hrr
          go_upto_region 10 with fail
          obtain ⟨w4, hw4⟩ : ∃ x, x = wr.alloc (.cells (choreCells a) 64) := ⟨_, rfl⟩
          obtain ⟨b4, hb4⟩ : ∃ x, x = wr.heap.size := ⟨_, rfl⟩
          rw [← hw4, ← hb4]
          have hbw : Below wr.heap.size wr w4 := by rw [hw4]; exact (Below.refl _ wr).alloc (Nat.le_refl _) _
          have hx4 : w4.heap[b4]? = some (.cells (choreCells a) 64 (0, 0)) := by rw [hw4, hb4]; exact heap_new _ _ _ rfl
          have hX4 := Lib.hid (hX.out.later hbw)
          clear x0 x1 x2 x3 x4 x5 x6 x7 x8 hbw
          replace hw4 := Lib.hid hw4
          replace hb4 := Lib.hid hb4
          obtain ⟨p0, p1⟩ := cells2 hX4.out.farm
          obtain ⟨m0, m1, m2, m3, m4, m5⟩ := six_cells hX4.out.after
          obtain ⟨x0, x1, x2, x3, x4, x5, x6, x7, x8⟩ := nine_cells2 hx4
          replace hx4 := Lib.hid hx4
          go_wp2_with fail
          (with_reducible refine (c35.out _ hX4.out).mono ?_)
          rintro e w5 ⟨t2, rfl, hs2, hr2, hb5, hf2⟩
          have hX5 := Lib.hid (hX4.out.later hb5)
          have hz4 := hX4.out.size
          replace hs2 := Lib.hid hs2
          clear p0 p1 m0 m1 m2 m3 m4 m5 x0 x1 x2 x3 x4 x5 x6 x7 x8 hb5 c35
          obtain ⟨er, her⟩ : ∃ er, er = r.1 := ⟨_, rfl⟩
          rw [← her]
          replace her := Lib.hid her
          go_upto_region 11 with fail
          obtain ⟨w6, hw6⟩ : ∃ x, x = w5.alloc (.cells (storeCells t2) 43) := ⟨_, rfl⟩
          obtain ⟨b6, hb6⟩ : ∃ x, x = w5.heap.size := ⟨_, rfl⟩
          rw [← hw6, ← hb6]
          have hbw : Below w5.heap.size w5 w6 := by rw [hw6]; exact (Below.refl _ w5).alloc (Nat.le_refl _) _
          have hx6 : w6.heap[b6]? = some (.cells (storeCells t2) 43 (0, 0)) := by rw [hw6, hb6]; exact heap_new _ _ _ rfl
          have hX6 := Lib.hid (hX5.out.later hbw)
          have hr6 : Hid (RdStore w6 t2) := hr2.below hbw
          clear hr2 hbw
          replace hw6 := Lib.hid hw6
          replace hb6 := Lib.hid hb6
          obtain ⟨m0, m1, m2, m3, m4, m5⟩ := six_cells hX6.out.after
          obtain ⟨x0, x1, x2, x3, x4, x5⟩ := six_cells hx6
          have hfr : ∀ j, w6.frozen? ⟨w.heap.size + 1 + 1, j, none⟩ = false := fun j => frozen_of_row w6 _ j _ _ hX6.out.after
          have f0 := hfr 0
          have f1 := hfr 1
          have f2 := hfr 2
          have f3 := hfr 3
          have f4 := hfr 4
          have f5 := hfr 5
          replace hx6 := Lib.hid hx6
          replace hf2 := Lib.hid hf2
          clear hfr
          by_cases he : er = 0
          · have heb : (er != 0) = false := by simpa using he
            have hz6 := hX6.out.size
            have hdo : (doP pl dry t' l[k]).1 = 0 := by rw [← ha.out, ← hrr.out, ← her.out, he]
            have hI' := Lib.hid (hI.out.step hsu.out hlt hdo)
            have hsu' : Hid (SameC t2 (doP pl dry u l[k]).2) := by
              have := (hsu.out.doP pl dry l[k]).2
              rw [← ha.out, ← hrr.out] at this
              rw [← ha.out]
              exact hs2.out.trans this
            have hX7 := Lib.hid (hX6.out.put hr6.out hz4 hf2.out)
            replace he := Lib.hid he
            go_wp2_with fail
            exact ⟨⟨k + 1, t2, _, by go_num, by omega, hsu', hI', hX7⟩, by simp only [intOf]; omega⟩
          · have heb : (er != 0) = true := by simpa using he
            have hdo : (doP pl dry t' l[k]).1 ≠ 0 := by rw [← ha.out, ← hrr.out, ← her.out]; exact he
            have hst := hI.out.stop hsu.out hlt hdo
            rw [← ha.out, ← hrr.out, ← her.out] at hst
            have hre : Hid (runP pl dry s l = (u, (k : Int), er)) := hr.out.trans hst
            clear hst
            replace he := Lib.hid he
            go_wp2_with fail
            exact hX6.out.right hsu.out hre.out Try.results38 rfl rfl rfl
        · have hre : Hid (runP pl dry s l = (u, (l.length : Int), 0)) := by
            have e : k = l.length := by omega
            subst e
            exact hr.out.trans (hI.out.done (Nat.le_refl _))
          obtain ⟨m0, m1, m2, m3, m4, m5⟩ := six_cells hX.out.after
          have hfr : ∀ j, wr.frozen? ⟨w.heap.size + 1 + 1, j, none⟩ = false := fun j => frozen_of_row wr _ j _ _ hX.out.after
          have f0 := hfr 0
          have f1 := hfr 1
          have f2 := hfr 2
          have f3 := hfr 3
          have f4 := hfr 4
          have f5 := hfr 5
          clear hfr
          go_wp2_with fail
          exact hX.out.right hsu.out hre.out Try.results38 rfl rfl rfl
  · have hr : Hid (runP pl dry s l = (noStore, 0, ck)) := by unfold Hid runP; rw [← hckE, if_pos h0]
    have h0b : (ck != 0) = true := by simpa using h0
    replace hckE := Lib.hid hckE
    replace h0 := Lib.hid h0
    go_wp2_with (first | (go_at_call 28; (with_reducible refine (hck.out _ hX0.out).mono ?_); rintro e w1 ⟨rfl, hb1⟩; have hX1 := Lib.hid (hX0.out.later hb1); obtain ⟨m0, m1, m2, m3, m4, m5⟩ := six_cells hX1.out.after; have hfr : ∀ j, w1.frozen? ⟨w.heap.size + 1 + 1, j, none⟩ = false := (fun j => frozen_of_row w1 _ j _ _ hX1.out.after); have f0 := hfr 0; have f1 := hfr 1; have f2 := hfr 2; have f3 := hfr 3; have f4 := hfr 4; have f5 := hfr 5; clear hfr))
    exact hX1.out.wrong hr.out Try.results38 rfl rfl rfl
end Go.Proofs.Ytpgkhlpepckfgaa
end
section
namespace Go.Proofs.Ytpgkhlpepckfgaa
open Go.RowKit Go.Lib

/-- What the law's helper hands back: a store that may be, if it says so. -/
def AfterOut (pl : List Plot) (dry : Int) (w : World) (e : Ending) (w' : World) : Prop := ∃ (t : Store) (b : Bool), e = .returned (.tuple #[storeVal t, .bool b]) ∧ (b = true → checkS pl dry t = 0 ∧ RdStore w' t) ∧ Below w.heap.size w w'
structure AfX (w : World) (A : Option Addr) (c : Nat) (pl : List Plot) (dry : Int) (W : World) : Prop where
  below : Below w.heap.size w W
  farm : W.heap[w.heap.size]? = some (.cells #[.slice A pl.length c, .int .i64 dry] 24 (0, 0))
  out : W.heap[w.heap.size + 1]? = some (.cells (storeCells noStore) 43 (0, 0))
  size : w.heap.size + 2 ≤ W.heap.size
section
variable {w : World} {A : Option Addr} {c : Nat} {pl : List Plot} {dry : Int} {t u : Store} {W W' : World}
theorem AfX.make : AfX w A c pl dry ((w.alloc (.cells #[.slice A pl.length c, .int .i64 dry] 24)).alloc (.cells (storeCells noStore) 43)) := by
  refine ⟨((Below.refl _ w).alloc (Nat.le_refl _) _).alloc (by simp) _, ?_, ?_, by simp⟩
  · exact heap_old _ _ _ _ (heap_new _ _ _ rfl)
  · exact heap_new _ _ _ (by simp)
theorem AfX.later (h : AfX w A c pl dry W) (hb : Below W.heap.size W W') : AfX w A c pl dry W' := by
  have hz := h.size
  exact ⟨h.below.trans (hb.mono h.below.size), (hb.block _ (by omega)).trans h.farm, (hb.block _ (by omega)).trans h.out, Nat.le_trans hz hb.size⟩
theorem AfX.put (h : AfX w A c pl dry W) {b : Nat} (hb : w.heap.size + 2 ≤ b) : AfX w A c pl dry (putS W b u) := by
  have hz := h.size
  exact ⟨set6_below _ _ _ _ _ _ h.below (by omega), (set6_other _ _ _ _ _ _ (by omega)).trans h.farm, (set6_other _ _ _ _ _ _ (by omega)).trans h.out, by rw [putS_size]; exact hz⟩
theorem results_after {fn : Func} {p q : Tmp} (hf : fn.results = #[.cell p 43, .tmp q]) {tmps : Array Value} {b : Nat} {x : Bool} (hp : tmps.getD p undef = ptr b) (hq : tmps.getD q undef = .bool x) {u : Store} {W : World} (h : W.heap[b]? = some (.cells (storeCells u) 43 (0, 0))) :
    (results fn tmps).run Try.prog W = .ok (.tuple #[storeVal u, .bool x]) W := by
  obtain ⟨c0, c1, c2, c3, c4, c5⟩ := six_cells h
  have hp' : tmps[p]?.getD undef = .pointer (some ⟨b, 0, none⟩) := by simpa using hp
  have hq' : tmps[q]?.getD undef = .bool x := by simpa using hq
  simp [results, hf, hp', hq', asAddr, go_sem, c0, c1, c2, c3, c4, c5]
theorem AfX.fin (h : AfX w A c pl dry W) {x : Bool} (hs : x = true → checkS pl dry t = 0 ∧ RdStore W t ∧ FreshS (w.heap.size + 2) t) {fn : Func} {p q : Tmp} (hf : fn.results = #[.cell p 43, .tmp q]) {tmps : Array Value} (hp : tmps.getD p undef = ptr (w.heap.size + 1)) (hq : tmps.getD q undef = .bool x) :
    bodyPost Try.prog fn (AfterOut pl dry w) .ret { tmps := tmps, defers := [] } (putS W (w.heap.size + 1) t) := by
  have hz := h.size
  have hA : (putS W (w.heap.size + 1) t).heap[w.heap.size + 1]? = some (.cells (storeCells t) 43 (0, 0)) := set6 _ _ _ _ _ _ h.out
  refine bodyPost_ret (results_after hf hp hq hA) rfl ⟨t, x, rfl, fun hx => ?_, set6_below _ _ _ _ _ _ h.below (by omega)⟩
  obtain ⟨h1, h2, h3⟩ := hs hx
  exact ⟨h1, h2.over h3 (by omega) h.out fun k hk => set6_other _ _ _ _ _ _ hk⟩
end
set_option maxHeartbeats 2000000 in
set_option maxRecDepth 100000 in
theorem after_any (A : Option Addr) (c : Nat) (pl : List Plot) (dry : Int) (B : Option Addr) (cb : Nat) (l : List Chore) (w : World) (h : RdPlots w A pl) (hl : RdChores w B l) (hl2 : l.length ≤ 200) :
    Calls Try.prog 42 #[.agg #[.slice A pl.length c, .int .i64 dry], .slice B l.length cb] w (AfterOut pl dry w) := by
  obtain ⟨W0, hW0⟩ : ∃ W0, W0 = ((w.alloc (.cells #[.slice A pl.length c, .int .i64 dry] 24)).alloc (.cells (storeCells noStore) 43)) := ⟨_, rfl⟩
  have hX0 : Hid (AfX w A c pl dry W0) := by rw [hW0]; exact AfX.make
  obtain ⟨p0, p1⟩ := cells2 hX0.out.farm
  obtain ⟨ck, hck⟩ : ∃ ck, ck = checkI pl dry := ⟨_, rfl⟩
  have c23 : Hid (∀ W, AfX w A c pl dry W → Calls Try.prog 23 #[.agg #[.slice A pl.length c, .int .i64 dry]] W fun e w' => ∃ t : Store, e = .returned (.tuple #[storeVal t, .int .i64 ck]) ∧ RdStore w' t ∧ SameS (newS pl dry) t ∧ Below W.heap.size W w') := fun W hW => hck ▸ new_any A c pl dry W (h.below hW.below)
  replace hck := Lib.hid hck
  go_enter Try.func42, Try.ntmps42
  go_upto_region 1 with fail
  unfold storeCells noStore at hW0
  simp only [List.length_nil] at hW0
  rw [← hW0]
  replace hW0 := Lib.hid hW0
  go_wp2_with fail
  go_at_call 23
  (with_reducible refine (c23.out _ hX0.out).mono ?_)
  rintro e w1 ⟨t, rfl, hrt, hst, hb1⟩
  have hX1 := Lib.hid (hX0.out.later hb1)
  replace hst := Lib.hid hst
  clear p0 p1 c23 hb1
  go_upto_region 2 with fail
  obtain ⟨w2, hw2⟩ : ∃ x, x = w1.alloc (.cells (storeCells t) 43) := ⟨_, rfl⟩
  obtain ⟨b2, hb2⟩ : ∃ x, x = w1.heap.size := ⟨_, rfl⟩
  rw [← hw2, ← hb2]
  have hbw : Below w1.heap.size w1 w2 := by rw [hw2]; exact (Below.refl _ w1).alloc (Nat.le_refl _) _
  have hx2 : w2.heap[b2]? = some (.cells (storeCells t) 43 (0, 0)) := by rw [hw2, hb2]; exact heap_new _ _ _ rfl
  have hX2 := Lib.hid (hX1.out.later hbw)
  have hr2 := Lib.hid (hrt.below hbw)
  have hg2 : Hid (w.heap.size + 2 ≤ b2) := by unfold Hid; rw [hb2]; exact hX1.out.size
  clear hrt hbw
  replace hw2 := Lib.hid hw2
  replace hb2 := Lib.hid hb2
  obtain ⟨m0, m1, m2, m3, m4, m5⟩ := six_cells hx2
  obtain ⟨p0, p1⟩ := cells2 hX2.out.farm
  by_cases h0 : ck = 0
  · have h0b : (ck != 0) = false := by simpa using h0
    have hci : checkI pl dry = 0 := hck.out.symm.trans h0
    have hsc := new_same hst.out
    have hct : checkS pl dry t = 0 := (hsc.checkS pl dry).trans (new_check hci)
    obtain ⟨e1, e2, e3⟩ := (check_ok hct).lens
    have hu : t.used.length ≤ 1000000 := by omega
    have hwl : t.waste.length ≤ 1000000 := by omega
    have hh : ∀ x ∈ t.heaps, x.parts.length ≤ 1000000 := fun x hx => by have := e3 x hx; omega
    obtain ⟨r, hr⟩ : ∃ r, r = runP pl dry t l := ⟨_, rfl⟩
    have hrc : Hid (checkS pl dry r.1 = 0) := by
      unfold Hid
      rw [hr]; unfold runP
      rw [if_neg (by simp [hct]), if_neg (by omega)]
      exact runL_check _ _ hct
    have c38 : Hid (∀ W, AfX w A c pl dry W → RdStore W t → Calls Try.prog 38 #[.agg #[.slice A pl.length c, .int .i64 dry], storeVal t, .slice B l.length cb] W (RunOut r W)) := fun W hW hR => hr ▸ run_any A c pl dry t B cb l W (h.below hW.below) hR (hl.below hW.below) hu hwl hh
    replace hr := Lib.hid hr
    replace hct := Lib.hid hct
    replace hci := Lib.hid hci
    replace h0 := Lib.hid h0
    clear hsc e1 e2 e3 hu hwl hh hst
    go_wp2_with fail
    go_at_call 38
    (with_reducible refine (c38.out _ hX2.out hr2.out).mono ?_)
    rintro e w3 ⟨u, rfl, hsu, hru, hb3, hfu⟩
    have hX3 := Lib.hid (hX2.out.later hb3)
    have hlt2 : b2 < w2.heap.size := (Array.getElem?_eq_some_iff.1 hx2).1
    have hx3 := (hb3.block b2 hlt2).trans hx2
    have hfr : ∀ j, w3.frozen? ⟨b2, j, none⟩ = false := fun j => frozen_of_row w3 _ j _ _ hx3
    have f0 := hfr 0
    have f1 := hfr 1
    have f2 := hfr 2
    have f3 := hfr 3
    have f4 := hfr 4
    have f5 := hfr 5
    clear hfr m0 m1 m2 m3 m4 m5 p0 p1 c38 hb3 hx2
    obtain ⟨m0, m1, m2, m3, m4, m5⟩ := six_cells hx3
    obtain ⟨n, hn⟩ : ∃ n, n = r.2.1 := ⟨_, rfl⟩
    rw [← hn]
    have hz2 := hX2.out.size
    obtain ⟨w4, hw4⟩ : ∃ x, x = putS w3 b2 u := ⟨_, rfl⟩
    have hX4 : Hid (AfX w A c pl dry w4) := by rw [hw4]; exact hX3.out.put hg2.out
    have hr4 : Hid (RdStore w4 u) := by rw [hw4]; exact hru.over hfu hlt2 hx3 fun k hk => set6_other _ _ _ _ _ _ hk
    have hx4 : w4.heap[b2]? = some (.cells (storeCells u) 43 (0, 0)) := by rw [hw4]; exact set6 _ _ _ _ _ _ hx3
    have hf4 : Hid (FreshS (w.heap.size + 2) u) := fun k e => by have := hfu k e; omega
    have hcu : Hid (checkS pl dry u = 0) := (hsu.checkS pl dry).trans hrc.out
    replace hn := Lib.hid hn
    replace hx3 := Lib.hid hx3
    clear hru hfu hsu
    go_upto_region 5 with fail
    unfold putS at hw4
    rw [← hw4]
    clear f0 f1 f2 f3 f4 f5 m0 m1 m2 m3 m4 m5
    replace hw4 := Lib.hid hw4
    obtain ⟨m0, m1, m2, m3, m4, m5⟩ := six_cells hx4
    obtain ⟨k0, k1, k2, k3, k4, k5⟩ := six_cells hX4.out.out
    have hfr : ∀ j, w4.frozen? ⟨w.heap.size + 1, j, none⟩ = false := fun j => frozen_of_row w4 _ j _ _ hX4.out.out
    have f0 := hfr 0
    have f1 := hfr 1
    have f2 := hfr 2
    have f3 := hfr 3
    have f4 := hfr 4
    have f5 := hfr 5
    clear hfr
    replace hx4 := Lib.hid hx4
    go_wp2_with fail
    exact hX4.out.fin (x := decide (0 < n)) (fun _ => ⟨hcu.out, hr4.out, hf4.out⟩) Try.results42 rfl rfl
  · have h0b : (ck != 0) = true := by simpa using h0
    obtain ⟨k0, k1, k2, k3, k4, k5⟩ := six_cells hX2.out.out
    have hfr : ∀ j, w2.frozen? ⟨w.heap.size + 1, j, none⟩ = false := fun j => frozen_of_row w2 _ j _ _ hX2.out.out
    have f0 := hfr 0
    have f1 := hfr 1
    have f2 := hfr 2
    have f3 := hfr 3
    have f4 := hfr 4
    have f5 := hfr 5
    clear hfr
    replace h0 := Lib.hid h0
    replace hx2 := Lib.hid hx2
    go_wp2_with fail
    exact hX2.out.fin (x := false) (fun e => by cases e) Try.results42 rfl rfl
end Go.Proofs.Ytpgkhlpepckfgaa
end
