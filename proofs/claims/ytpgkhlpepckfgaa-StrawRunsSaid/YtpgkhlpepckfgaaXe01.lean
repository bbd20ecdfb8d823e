/-
  What straw.Run does: walked. What the specification's Run does: walked. Long: whether chores are more than the laws look at, walked. The law StrawRuns, walked. An argument that came in, opened: a row of chores as the walks read it.
-/
import Derived.Test.YtpgkhlpepckfgaaXa10
import Derived.Test.YtpgkhlpepckfgaaXa17
import Derived.Test.YtpgkhlpepckfgaaXa22
import Derived.Test.YtpgkhlpepckfgaaXc00
import Derived.Test.YtpgkhlpepckfgaaXe00
import Derived.Deep.DeepCutAuto
import Derived.Shelf.RegionOpen
set_option linter.all false
set_option linter.unusedVariables false
set_option linter.unusedSimpArgs false
section
namespace Go.Proofs.Ytpgkhlpepckfgaa
open Go.RowKit Go.Lib

set_option maxHeartbeats 2000000 in
set_option maxRecDepth 100000 in
theorem run_any (A : Option Addr) (c : Nat) (pl : List Plot) (dry : Int) (s : Store) (B : Option Addr) (cb : Nat) (l : List Chore) (w : World) (h : RdPlots w A pl) (hs : RdStore w s) (hl : RdChores w B l) (hu : s.used.length ≤ 1000000) (hw : s.waste.length ≤ 1000000) (hh : ∀ x ∈ s.heaps, x.parts.length ≤ 1000000) :
    Calls Try.prog 38 #[.agg #[.slice A pl.length c, .int .i64 dry], storeVal s, .slice B l.length cb] w (RunOut (runP pl dry s l) w) := by
  have hlen := hl.1.1
  obtain ⟨W0, hW0⟩ : ∃ W0, W0 = (((w.alloc (.cells #[.slice A pl.length c, .int .i64 dry] 24)).alloc (.cells (storeCells s) 43)).alloc (.cells (storeCells noStore) 43)) := ⟨_, rfl⟩
  have hX0 : Hid (RnX w A c pl dry s noStore W0) := by rw [hW0]; exact RnX.make
  have hck : Hid (∀ W, RnX w A c pl dry s noStore W → Calls Try.prog 28 #[.agg #[.slice A pl.length c, .int .i64 dry], storeVal s] W fun e w' => e = .returned (.int .i64 (checkS pl dry s)) ∧ Below W.heap.size W w') := fun W hW => checkStore_any A c pl dry s W (h.below hW.below) (hs.below hW.below) hu hw hh
  obtain ⟨ck, hckE⟩ : ∃ ck, ck = checkS pl dry s := ⟨_, rfl⟩
  rw [← hckE] at hck
  obtain ⟨p0, p1⟩ := cells2 hX0.out.farm
  obtain ⟨k0, k1, k2, k3, k4, k5⟩ := six_cells hX0.out.store
  go_enter Try.func38, Try.ntmps38
  go_upto_region 1 with fail
  unfold storeCells noStore at hW0
  simp only [List.length_nil] at hW0
  rw [← hW0]
  replace hW0 := Lib.hid hW0
  by_cases h0 : ck = 0
  · subst h0
    have h0b : ((0 : Int) != 0) = false := rfl
    by_cases h2 : 200 < l.length
    · have hr : Hid (runP pl dry s l = (noStore, 0, 3)) := by unfold Hid runP; rw [← hckE, if_neg (by decide), if_pos h2]
      replace hckE := Lib.hid hckE
      go_wp2_with (first | (go_at_call 28; (with_reducible refine (hck.out _ hX0.out).mono ?_); rintro e w1 ⟨rfl, hb1⟩; have hX1 := Lib.hid (hX0.out.later hb1); obtain ⟨m0, m1, m2, m3, m4, m5⟩ := six_cells hX1.out.after; have hfr : ∀ j, w1.frozen? ⟨w.heap.size + 1 + 1, j, none⟩ = false := (fun j => frozen_of_row w1 _ j _ _ hX1.out.after); have f0 := hfr 0; have f1 := hfr 1; have f2 := hfr 2; have f3 := hfr 3; have f4 := hfr 4; have f5 := hfr 5; clear hfr))
      exact hX1.out.wrong hr.out Try.results38 rfl rfl rfl
    · have hr : Hid (runP pl dry s l = runL pl dry s l) := by unfold Hid runP; rw [← hckE, if_neg (by decide), if_neg h2]
      have htw : Hid (∀ W, RnX w A c pl dry s noStore W → Calls Try.prog 76 #[storeVal s] W fun e w' => ∃ t, e = .returned (storeVal t) ∧ SameC t s ∧ RdStore w' t ∧ Below W.heap.size W w' ∧ FreshS W.heap.size t) := fun W hW => twinC_any pl dry s W (hs.below hW.below) hckE.symm hu hw hh
      replace hckE := Lib.hid hckE
      go_wp2_with (first | (go_at_call 28; (with_reducible refine (hck.out _ hX0.out).mono ?_); rintro e w1 ⟨rfl, hb1⟩; have hX1 := Lib.hid (hX0.out.later hb1); obtain ⟨m0, m1, m2, m3, m4, m5⟩ := six_cells hX1.out.store))
      go_at_call 76
      (with_reducible refine (htw.out _ hX1.out).mono ?_)
      rintro e w2 ⟨t, rfl, hst, hrt, hb2, hft⟩
      have hX2 := Lib.hid (hX1.out.later hb2)
      have hfr : ∀ j, w2.frozen? ⟨w.heap.size + 1 + 1, j, none⟩ = false := fun j => frozen_of_row w2 _ j _ _ hX2.out.after
      have f0 := hfr 0
      have f1 := hfr 1
      have f2 := hfr 2
      have f3 := hfr 3
      have f4 := hfr 4
      have f5 := hfr 5
      clear hfr p0 p1 k0 k1 k2 k3 k4 k5 m0 m1 m2 m3 m4 m5 hck htw
      obtain ⟨m0, m1, m2, m3, m4, m5⟩ := six_cells hX2.out.after
      have hz1 := hX1.out.size
      obtain ⟨w3, hw3⟩ : ∃ x, x = putS w2 (w.heap.size + 1 + 1) t := ⟨_, rfl⟩
      have hX3 : Hid (RnX w A c pl dry s t w3) := by rw [hw3]; exact hX2.out.put hrt hz1 hft
      replace hst := Lib.hid hst
      replace hrt := Lib.hid hrt
      replace hft := Lib.hid hft
      go_upto_region 4 with fail
      unfold putS at hw3
      rw [← hw3]
      clear f0 f1 f2 f3 f4 f5 m0 m1 m2 m3 m4 m5
      replace hw3 := Lib.hid hw3
      go_wp2_with fail
      go_loopw [29] (fun i wr => ∃ (k : Nat) (t u : Store), i = .int .i64 (k : Int) ∧ k ≤ l.length ∧ Hid (SameC t u) ∧ Hid (RunI pl dry s l k u) ∧ Hid (RnX w A c pl dry s t wr)) (fun i _ => l.length - (intOf i).toNat)
      case atStart => exact ⟨0, t, s, rfl, Nat.zero_le _, hst, ⟨by simp, hckE.out.symm⟩, hX3⟩
      case round =>
        obtain ⟨k, t', u, rfl, hk, hsu, hI, hX⟩ := hrel
        by_cases hlt : k < l.length
        · obtain ⟨ad, hA, x0, x1, x2, x3, x4, x5, x6, x7, x8⟩ := (hl.1.below hX.out.below).at9 hlt rfl
          obtain ⟨a, ha⟩ : ∃ a, a = l[k] := ⟨_, rfl⟩
          obtain ⟨wn, wo, wk⟩ := hl.2 _ (List.getElem_mem hlt)
          rw [← ha] at x0 x1 x2 x3 x4 x5 x6 x7 x8 wn wo wk
          subst hA
          obtain ⟨lu, lw, lh⟩ := hI.out.lens hsu.out
          obtain ⟨r, hrr⟩ : ∃ r, r = doP pl dry t' a := ⟨_, rfl⟩
          have c35 : Hid (∀ W, RnX w A c pl dry s t' W → Calls Try.prog 35 #[.agg #[.slice A pl.length c, .int .i64 dry], storeVal t', choreVal a] W (DoOut r W)) := fun W hW => hrr ▸ do_any A c pl dry t' a W (h.below hW.below) hW.rd lu lw lh wn wo wk
          replace ha := Lib.hid ha
          replace hrr := Lib.hid hrr
          go_upto_region 10 with fail
          obtain ⟨w4, hw4⟩ : ∃ x, x = wr.alloc (.cells (choreCells a) 64) := ⟨_, rfl⟩
          obtain ⟨b4, hb4⟩ : ∃ x, x = wr.heap.size := ⟨_, rfl⟩
          rw [← hw4, ← hb4]
          have hbw : Below wr.heap.size wr w4 := by rw [hw4]; exact (Below.refl _ wr).alloc (Nat.le_refl _) _
          have hx4 : w4.heap[b4]? = some (.cells (choreCells a) 64 (0, 0)) := by rw [hw4, hb4]; exact heap_new _ _ _ rfl
          have hX4 := Lib.hid (hX.out.later hbw)
          clear x0 x1 x2 x3 x4 x5 x6 x7 x8 hbw
          replace hw4 := Lib.hid hw4
          replace hb4 := Lib.hid hb4
          obtain ⟨p0, p1⟩ := cells2 hX4.out.farm
          obtain ⟨m0, m1, m2, m3, m4, m5⟩ := six_cells hX4.out.after
          obtain ⟨x0, x1, x2, x3, x4, x5, x6, x7, x8⟩ := nine_cells2 hx4
          replace hx4 := Lib.hid hx4
          go_wp2_with fail
          (with_reducible refine (c35.out _ hX4.out).mono ?_)
          rintro e w5 ⟨t2, rfl, hs2, hr2, hb5, hf2⟩
          have hX5 := Lib.hid (hX4.out.later hb5)
          have hz4 := hX4.out.size
          replace hs2 := Lib.hid hs2
          clear p0 p1 m0 m1 m2 m3 m4 m5 x0 x1 x2 x3 x4 x5 x6 x7 x8 hb5 c35
          obtain ⟨er, her⟩ : ∃ er, er = r.1 := ⟨_, rfl⟩
          rw [← her]
          replace her := Lib.hid her
          go_upto_region 11 with fail
          obtain ⟨w6, hw6⟩ : ∃ x, x = w5.alloc (.cells (storeCells t2) 43) := ⟨_, rfl⟩
          obtain ⟨b6, hb6⟩ : ∃ x, x = w5.heap.size := ⟨_, rfl⟩
          rw [← hw6, ← hb6]
          have hbw : Below w5.heap.size w5 w6 := by rw [hw6]; exact (Below.refl _ w5).alloc (Nat.le_refl _) _
          have hx6 : w6.heap[b6]? = some (.cells (storeCells t2) 43 (0, 0)) := by rw [hw6, hb6]; exact heap_new _ _ _ rfl
          have hX6 := Lib.hid (hX5.out.later hbw)
          have hr6 : Hid (RdStore w6 t2) := hr2.below hbw
          clear hr2 hbw
          replace hw6 := Lib.hid hw6
          replace hb6 := Lib.hid hb6
          obtain ⟨m0, m1, m2, m3, m4, m5⟩ := six_cells hX6.out.after
          obtain ⟨x0, x1, x2, x3, x4, x5⟩ := six_cells hx6
          have hfr : ∀ j, w6.frozen? ⟨w.heap.size + 1 + 1, j, none⟩ = false := fun j => frozen_of_row w6 _ j _ _ hX6.out.after
          have f0 := hfr 0
          have f1 := hfr 1
          have f2 := hfr 2
          have f3 := hfr 3
          have f4 := hfr 4
          have f5 := hfr 5
          replace hx6 := Lib.hid hx6
          replace hf2 := Lib.hid hf2
          clear hfr
          by_cases he : er = 0
          · have heb : (er != 0) = false := by simpa using he
            have hz6 := hX6.out.size
            have hdo : (doP pl dry t' l[k]).1 = 0 := by rw [← ha.out, ← hrr.out, ← her.out, he]
            have hI' := Lib.hid (hI.out.step hsu.out hlt hdo)
            have hsu' : Hid (SameC t2 (doP pl dry u l[k]).2) := by
              have := (hsu.out.doP pl dry l[k]).2
              rw [← ha.out, ← hrr.out] at this
              rw [← ha.out]
              exact hs2.out.trans this
            have hX7 := Lib.hid (hX6.out.put hr6.out hz4 hf2.out)
            replace he := Lib.hid he
            go_wp2_with fail
            exact ⟨⟨k + 1, t2, _, by go_num, by omega, hsu', hI', hX7⟩, by simp only [intOf]; omega⟩
          · have heb : (er != 0) = true := by simpa using he
            have hdo : (doP pl dry t' l[k]).1 ≠ 0 := by rw [← ha.out, ← hrr.out, ← her.out]; exact he
            have hst := hI.out.stop hsu.out hlt hdo
            rw [← ha.out, ← hrr.out, ← her.out] at hst
            have hre : Hid (runP pl dry s l = (u, (k : Int), er)) := hr.out.trans hst
            clear hst
            replace he := Lib.hid he
            go_wp2_with fail
            exact hX6.out.right hsu.out hre.out Try.results38 rfl rfl rfl
        · have hre : Hid (runP pl dry s l = (u, (l.length : Int), 0)) := by
            have e : k = l.length := by omega
            subst e
            exact hr.out.trans (hI.out.done (Nat.le_refl _))
          obtain ⟨m0, m1, m2, m3, m4, m5⟩ := six_cells hX.out.after
          have hfr : ∀ j, wr.frozen? ⟨w.heap.size + 1 + 1, j, none⟩ = false := fun j => frozen_of_row wr _ j _ _ hX.out.after
          have f0 := hfr 0
          have f1 := hfr 1
          have f2 := hfr 2
          have f3 := hfr 3
          have f4 := hfr 4
          have f5 := hfr 5
          clear hfr
          go_wp2_with fail
          exact hX.out.right hsu.out hre.out Try.results38 rfl rfl rfl
  · have hr : Hid (runP pl dry s l = (noStore, 0, ck)) := by unfold Hid runP; rw [← hckE, if_pos h0]
    have h0b : (ck != 0) = true := by simpa using h0
    replace hckE := Lib.hid hckE
    replace h0 := Lib.hid h0
    go_wp2_with (first | (go_at_call 28; (with_reducible refine (hck.out _ hX0.out).mono ?_); rintro e w1 ⟨rfl, hb1⟩; have hX1 := Lib.hid (hX0.out.later hb1); obtain ⟨m0, m1, m2, m3, m4, m5⟩ := six_cells hX1.out.after; have hfr : ∀ j, w1.frozen? ⟨w.heap.size + 1 + 1, j, none⟩ = false := (fun j => frozen_of_row w1 _ j _ _ hX1.out.after); have f0 := hfr 0; have f1 := hfr 1; have f2 := hfr 2; have f3 := hfr 3; have f4 := hfr 4; have f5 := hfr 5; clear hfr))
    exact hX1.out.wrong hr.out Try.results38 rfl rfl rfl
end Go.Proofs.Ytpgkhlpepckfgaa
end
section
namespace Go.Proofs.Ytpgkhlpepckfgaa
open Go.RowKit Go.Lib

/-- What the specification's Run has laid: the farm, the store as it stands, the result. -/
structure RqX (w : World) (A : Option Addr) (c : Nat) (pl : List Plot) (dry : Int) (t : Store) (W : World) : Prop where
  below : Below w.heap.size w W
  farm : W.heap[w.heap.size]? = some (.cells #[.slice A pl.length c, .int .i64 dry] 24 (0, 0))
  store : W.heap[w.heap.size + 1]? = some (.cells (storeCells t) 43 (0, 0))
  out : W.heap[w.heap.size + 1 + 1]? = some (.cells (storeCells noStore) 43 (0, 0))
  size : w.heap.size + 3 ≤ W.heap.size
  rd : RdStore W t
section
variable {w : World} {A : Option Addr} {c : Nat} {pl : List Plot} {dry : Int} {s t u : Store} {W W' : World}
theorem RqX.make (hs : RdStore w s) : RqX w A c pl dry s (((w.alloc (.cells #[.slice A pl.length c, .int .i64 dry] 24)).alloc (.cells (storeCells s) 43)).alloc (.cells (storeCells noStore) 43)) := by
  have hb : Below w.heap.size w (((w.alloc (.cells #[.slice A pl.length c, .int .i64 dry] 24)).alloc (.cells (storeCells s) 43)).alloc (.cells (storeCells noStore) 43)) := (((Below.refl _ w).alloc (Nat.le_refl _) _).alloc (by simp) _).alloc (by simp; omega) _
  refine ⟨hb, ?_, ?_, ?_, by simp, hs.below hb⟩
  · exact heap_old _ _ _ _ (heap_old _ _ _ _ (heap_new _ _ _ rfl))
  · exact heap_old _ _ _ _ (heap_new _ _ _ (by simp))
  · exact heap_new _ _ _ (by simp)
theorem RqX.later (h : RqX w A c pl dry t W) (hb : Below W.heap.size W W') : RqX w A c pl dry t W' := by
  have hz := h.size
  exact ⟨h.below.trans (hb.mono h.below.size), (hb.block _ (by omega)).trans h.farm, (hb.block _ (by omega)).trans h.store, (hb.block _ (by omega)).trans h.out, Nat.le_trans hz hb.size, h.rd.below hb⟩
theorem RqX.put (h : RqX w A c pl dry t W) (hr : RdStore W u) {B : Nat} (hB : w.heap.size + 3 ≤ B) (hf : FreshS B u) : RqX w A c pl dry u (putS W (w.heap.size + 1) u) := by
  have hz := h.size
  exact ⟨set6_below _ _ _ _ _ _ h.below (by omega), (set6_other _ _ _ _ _ _ (by omega)).trans h.farm, set6 _ _ _ _ _ _ h.store, (set6_other _ _ _ _ _ _ (by omega)).trans h.out, by rw [putS_size]; exact hz, hr.over hf (by omega) h.store fun k hk => set6_other _ _ _ _ _ _ hk⟩
theorem RqX.fin (h : RqX w A c pl dry t W) {v x : Store} (hv : RdStore W v) (hf : FreshS (w.heap.size + 3) v) (hs : SameC v x) {l : List Chore} {n e : Int} (hr : runP pl dry s l = (x, n, e)) {fn : Func} {p q y : Tmp} (hfn : fn.results = #[.cell p 43, .tmp q, .tmp y]) {tmps : Array Value} (hp : tmps.getD p undef = ptr (w.heap.size + 1 + 1)) (hq : tmps.getD q undef = .int .i64 n) (hx : tmps.getD y undef = .int .i64 e) :
    bodyPost Try.prog fn (RunOut (runP pl dry s l) w) .ret { tmps := tmps, defers := [] } (putS W (w.heap.size + 1 + 1) v) := by
  have hz := h.size
  have hA : (putS W (w.heap.size + 1 + 1) v).heap[w.heap.size + 1 + 1]? = some (.cells (storeCells v) 43 (0, 0)) := set6 _ _ _ _ _ _ h.out
  refine bodyPost_ret (results_run hfn hp hq hx hA) rfl ?_
  rw [hr]
  exact ⟨v, rfl, hs, hv.over hf (by omega) h.out fun k hk => set6_other _ _ _ _ _ _ hk, set6_below _ _ _ _ _ _ h.below (by omega), fun k e => by have := hf k e; omega⟩
end

set_option maxHeartbeats 2000000 in
set_option maxRecDepth 100000 in
theorem rrun_any (A : Option Addr) (c : Nat) (pl : List Plot) (dry : Int) (s : Store) (B : Option Addr) (cb : Nat) (l : List Chore) (w : World) (h : RdPlots w A pl) (hs : RdStore w s) (hl : RdChores w B l) (hu : s.used.length ≤ 1000000) (hw : s.waste.length ≤ 1000000) (hh : ∀ x ∈ s.heaps, x.parts.length ≤ 1000000) :
    Calls Try.prog 40 #[.agg #[.slice A pl.length c, .int .i64 dry], storeVal s, .slice B l.length cb] w (RunOut (runP pl dry s l) w) := by
  have hlen := hl.1.1
  obtain ⟨W0, hW0⟩ : ∃ W0, W0 = (((w.alloc (.cells #[.slice A pl.length c, .int .i64 dry] 24)).alloc (.cells (storeCells s) 43)).alloc (.cells (storeCells noStore) 43)) := ⟨_, rfl⟩
  have hX0 : Hid (RqX w A c pl dry s W0) := by rw [hW0]; exact RqX.make hs
  have hck : Hid (∀ W, RqX w A c pl dry s W → Calls Try.prog 29 #[.agg #[.slice A pl.length c, .int .i64 dry], storeVal s] W fun e w' => e = .returned (.int .i64 (checkS pl dry s)) ∧ Below W.heap.size W w') := fun W hW => rcheckStore_any A c pl dry s W (h.below hW.below) hW.rd hu hw hh
  obtain ⟨ck, hckE⟩ : ∃ ck, ck = checkS pl dry s := ⟨_, rfl⟩
  rw [← hckE] at hck
  obtain ⟨p0, p1⟩ := cells2 hX0.out.farm
  obtain ⟨k0, k1, k2, k3, k4, k5⟩ := six_cells hX0.out.store
  go_enter Try.func40, Try.ntmps40
  go_upto_region 1 with fail
  unfold storeCells noStore at hW0
  simp only [List.length_nil] at hW0
  rw [← hW0]
  replace hW0 := Lib.hid hW0
  by_cases h0 : ck = 0
  · subst h0
    have h0b : ((0 : Int) != 0) = false := rfl
    by_cases h2 : 200 < l.length
    · have hr : Hid (runP pl dry s l = (noStore, 0, 3)) := by unfold Hid runP; rw [← hckE, if_neg (by decide), if_pos h2]
      replace hckE := Lib.hid hckE
      go_wp2_with (first | (go_at_call 29; (with_reducible refine (hck.out _ hX0.out).mono ?_); rintro e w1 ⟨rfl, hb1⟩; have hX1 := Lib.hid (hX0.out.later hb1); obtain ⟨m0, m1, m2, m3, m4, m5⟩ := six_cells hX1.out.out; have hfr : ∀ j, w1.frozen? ⟨w.heap.size + 1 + 1, j, none⟩ = false := (fun j => frozen_of_row w1 _ j _ _ hX1.out.out); have f0 := hfr 0; have f1 := hfr 1; have f2 := hfr 2; have f3 := hfr 3; have f4 := hfr 4; have f5 := hfr 5; clear hfr))
      exact hX1.out.fin (v := noStore) (rd_noStore _) (fresh_none _) (SameC.refl _) hr.out Try.results40 rfl rfl rfl
    · have hr : Hid (runP pl dry s l = runL pl dry s l) := by unfold Hid runP; rw [← hckE, if_neg (by decide), if_neg h2]
      have htw : Hid (∀ W, RqX w A c pl dry s W → Calls Try.prog 79 #[storeVal s] W fun e w' => ∃ t, e = .returned (storeVal t) ∧ SameC t s ∧ RdStore w' t ∧ Below W.heap.size W w' ∧ FreshS W.heap.size t) := fun W hW => rtwinC_any pl dry s W hW.rd hckE.symm hu hw hh
      replace hckE := Lib.hid hckE
      go_wp2_with (first | (go_at_call 29; (with_reducible refine (hck.out _ hX0.out).mono ?_); rintro e w1 ⟨rfl, hb1⟩; have hX1 := Lib.hid (hX0.out.later hb1); obtain ⟨m0, m1, m2, m3, m4, m5⟩ := six_cells hX1.out.store))
      go_at_call 79
      (with_reducible refine (htw.out _ hX1.out).mono ?_)
      rintro e w2 ⟨t, rfl, hst, hrt, hb2, hft⟩
      have hX2 := Lib.hid (hX1.out.later hb2)
      have hfr : ∀ j, w2.frozen? ⟨w.heap.size + 1, j, none⟩ = false := fun j => frozen_of_row w2 _ j _ _ hX2.out.store
      have f0 := hfr 0
      have f1 := hfr 1
      have f2 := hfr 2
      have f3 := hfr 3
      have f4 := hfr 4
      have f5 := hfr 5
      clear hfr p0 p1 k0 k1 k2 k3 k4 k5 m0 m1 m2 m3 m4 m5 hck htw
      obtain ⟨m0, m1, m2, m3, m4, m5⟩ := six_cells hX2.out.store
      have hz1 := hX1.out.size
      obtain ⟨w3, hw3⟩ : ∃ x, x = putS w2 (w.heap.size + 1) t := ⟨_, rfl⟩
      have hX3 : Hid (RqX w A c pl dry t w3) := by rw [hw3]; exact hX2.out.put hrt hz1 hft
      have hft3 : Hid (FreshS (w.heap.size + 3) t) := fun k e => by have := hft k e; omega
      replace hst := Lib.hid hst
      replace hrt := Lib.hid hrt
      replace hft := Lib.hid hft
      go_upto_region 7 with fail
      unfold putS at hw3
      rw [← hw3]
      clear f0 f1 f2 f3 f4 f5 m0 m1 m2 m3 m4 m5
      replace hw3 := Lib.hid hw3
      go_wp2_with fail
      go_loopw [10] (fun i wr => ∃ (k : Nat) (t u : Store), i = .int .i64 (k : Int) ∧ k ≤ l.length ∧ Hid (SameC t u) ∧ Hid (RunI pl dry s l k u) ∧ Hid (FreshS (w.heap.size + 3) t) ∧ Hid (RqX w A c pl dry t wr)) (fun i _ => l.length - (intOf i).toNat)
      case atStart => exact ⟨0, t, s, rfl, Nat.zero_le _, hst, ⟨by simp, hckE.out.symm⟩, hft3, hX3⟩
      case round =>
        obtain ⟨k, t', u, rfl, hk, hsu, hI, hF, hX⟩ := hrel
        clear hft3 hX3 hX2 hX1 hX0 hrt hft hst hw3 hb2 hb1 hz1 hW0
        by_cases hlt : k < l.length
        · obtain ⟨a, ha⟩ : ∃ a, a = l[k] := ⟨_, rfl⟩
          obtain ⟨wn, wo, wk⟩ := hl.2 _ (List.getElem_mem hlt)
          rw [← ha] at wn wo wk
          obtain ⟨ad, hA, _⟩ := (hl.1.below hX.out.below).at9 hlt rfl
          have hS : Hid (∀ W, RqX w A c pl dry t' W → W.cell? ⟨w.heap.size, 0, none⟩ = some (.slice A pl.length c) ∧ W.cell? ⟨w.heap.size, 1, none⟩ = some (.int .i64 dry)) := fun W hW => cells2 hW.farm
          subst hA
          obtain ⟨lu, lw, lh⟩ := hI.out.lens hsu.out
          obtain ⟨r, hrr⟩ : ∃ r, r = doP pl dry t' a := ⟨_, rfl⟩
          have c36 : Hid (∀ W, RqX w A c pl dry t' W → Calls Try.prog 36 #[.agg #[.slice A pl.length c, .int .i64 dry], storeVal t', choreVal a] W (DoOut r W)) := fun W hW => hrr ▸ rdo_any A c pl dry t' a W (h.below hW.below) hW.rd lu lw lh wn wo
          replace ha := Lib.hid ha
          replace hrr := Lib.hid hrr
          go_upto_region 10 with fail
          obtain ⟨wq, hwq⟩ : ∃ x, x = wr.drew := ⟨_, rfl⟩
          have hXq : Hid (RqX w A c pl dry t' wq) := by rw [hwq]; exact hX.out.later (below_drewN_ wr 1)
          have hcl := Lib.hid (fun W (hW : RqX w A c pl dry t' W) => And.intro (cells2 hW.farm) (And.intro (six_cells hW.store) ((hl.below hW.below).nine hlt ha.out)))
          refine wp_region_tree (fun W => RqX w A c pl dry t' W) (.read 0 (.read 1 (.pure 2 (.pure 3 (.pure 4 (.read 5 (.two 6 (.pure 7 (.pure 8 (.pure 9 (.one 10 (.one 11 (.pure 12 .done)))))) 10 (.one 6 (.pure 7 (.pure 8 (.pure 9 (.one 11 (.pure 12 .done))))))))))))) [11] (by kernel_rfl) (by kernel_rfl) (by rw [← hwq]; exact hXq.out) ?_
          rw [← hwq]
          replace hwq := Lib.hid hwq
          refine wpTree_take (v := ?_) rfl (by rfl) ?_ (fun _ _ _ h => h) ?_
          rotate_left
          focus (intro w' hSw; obtain ⟨⟨k0, k1⟩, ⟨j0, j1, j2, j3, j4, j5⟩, x0, x1, x2, x3, x4, x5, x6, x7, x8⟩ := hcl.out _ hSw; clear hSw; (try simp only [List.getElem_toArray, List.getElem_cons_zero, List.getElem_cons_succ]); go_simp; try with_reducible rfl)
          simp only [List.getElem_toArray, List.getElem_cons_zero, List.getElem_cons_succ, Act.put, List.setIfInBounds_toArray, List.set_cons_zero, List.set_cons_succ]
          refine wpTree_take (v := ?_) rfl (by rfl) ?_ (fun _ _ _ h => h) ?_
          rotate_left
          focus (intro w' hSw; obtain ⟨⟨k0, k1⟩, ⟨j0, j1, j2, j3, j4, j5⟩, x0, x1, x2, x3, x4, x5, x6, x7, x8⟩ := hcl.out _ hSw; clear hSw; (try simp only [List.getElem_toArray, List.getElem_cons_zero, List.getElem_cons_succ]); go_simp; try with_reducible rfl)
          simp only [List.getElem_toArray, List.getElem_cons_zero, List.getElem_cons_succ, Act.put, List.setIfInBounds_toArray, List.set_cons_zero, List.set_cons_succ]
          refine wpTree_pure (v := ?_) rfl (by rfl) ?_ (fun _ _ _ h => h) ?_
          rotate_left
          focus (intro w'; (try simp only [List.getElem_toArray, List.getElem_cons_zero, List.getElem_cons_succ]); go_simp; try with_reducible rfl)
          simp only [List.getElem_toArray, List.getElem_cons_zero, List.getElem_cons_succ, Act.put, List.setIfInBounds_toArray, List.set_cons_zero, List.set_cons_succ]
          refine wpTree_pure (v := ?_) rfl (by rfl) ?_ (fun _ _ _ h => h) ?_
          rotate_left
          focus (intro w'; (try simp only [List.getElem_toArray, List.getElem_cons_zero, List.getElem_cons_succ]); go_simp; try with_reducible rfl)
          simp only [List.getElem_toArray, List.getElem_cons_zero, List.getElem_cons_succ, Act.put, List.setIfInBounds_toArray, List.set_cons_zero, List.set_cons_succ]
          refine wpTree_pure (v := ?_) rfl (by rfl) ?_ (fun _ _ _ h => h) ?_
          rotate_left
          focus (intro w'; (try simp only [List.getElem_toArray, List.getElem_cons_zero, List.getElem_cons_succ]); go_simp; try with_reducible rfl)
          simp only [List.getElem_toArray, List.getElem_cons_zero, List.getElem_cons_succ, Act.put, List.setIfInBounds_toArray, List.set_cons_zero, List.set_cons_succ]
          refine wpTree_take (v := ?_) rfl (by rfl) ?_ (fun _ _ _ h => h) ?_
          rotate_left
          focus (intro w' hSw; obtain ⟨⟨k0, k1⟩, ⟨j0, j1, j2, j3, j4, j5⟩, x0, x1, x2, x3, x4, x5, x6, x7, x8⟩ := hcl.out _ hSw; clear hSw; (try simp only [List.getElem_toArray, List.getElem_cons_zero, List.getElem_cons_succ]); go_simp; try with_reducible rfl)
          simp only [List.getElem_toArray, List.getElem_cons_zero, List.getElem_cons_succ, Act.put, List.setIfInBounds_toArray, List.set_cons_zero, List.set_cons_succ]
          clear hcl
          refine wpTree_two rfl (by rfl) rfl (by rfl) ?_ ?_
          (try simp only [List.getElem_toArray, List.getElem_cons_zero, List.getElem_cons_succ])
          go_simp
          go_at_call 36
          (with_reducible refine (c36.out _ hXq.out).mono ?_)
          rintro e w5 ⟨t2, rfl, hs2, hr2, hb5, hf2⟩
          have hX5 := Lib.hid (hXq.out.later hb5)
          have hz4 := hXq.out.size
          refine ⟨fun _ => hX5.out, ?_⟩
          clear hb5
          refine wpTree_pure (v := ?_) rfl (by rfl) ?_ (fun _ _ _ h => h) ?_
          rotate_left
          focus (intro w'; (try simp only [List.getElem_toArray, List.getElem_cons_zero, List.getElem_cons_succ]); go_simp; try with_reducible rfl)
          simp only [List.getElem_toArray, List.getElem_cons_zero, List.getElem_cons_succ, Act.put, List.setIfInBounds_toArray, List.set_cons_zero, List.set_cons_succ]
          refine wpTree_pure (v := ?_) rfl (by rfl) ?_ (fun _ _ _ h => h) ?_
          rotate_left
          focus (intro w'; (try simp only [List.getElem_toArray, List.getElem_cons_zero, List.getElem_cons_succ]); go_simp; try with_reducible rfl)
          simp only [List.getElem_toArray, List.getElem_cons_zero, List.getElem_cons_succ, Act.put, List.setIfInBounds_toArray, List.set_cons_zero, List.set_cons_succ]
          refine wpTree_pure (v := ?_) rfl (by rfl) ?_ (fun _ _ _ h => h) ?_
          rotate_left
          focus (intro w'; (try simp only [List.getElem_toArray, List.getElem_cons_zero, List.getElem_cons_succ]); go_simp; try with_reducible rfl)
          simp only [List.getElem_toArray, List.getElem_cons_zero, List.getElem_cons_succ, Act.put, List.setIfInBounds_toArray, List.set_cons_zero, List.set_cons_succ]
          refine wpTree_do rfl (by rfl) ?_
          (try simp only [List.getElem_toArray, List.getElem_cons_zero, List.getElem_cons_succ])
          go_simp
          obtain ⟨b6, hb6⟩ : ∃ b, b = w5.heap.size := ⟨_, rfl⟩
          rw [← hb6]
          obtain ⟨wz, hwz⟩ : ∃ x, x = w5.alloc (.cells (storeCells noStore) 43) := ⟨_, rfl⟩
          unfold storeCells noStore at hwz
          simp only [List.length_nil] at hwz
          rw [← hwz]
          have hba : Below w5.heap.size w5 wz := by rw [hwz]; exact (Below.refl _ w5).alloc (Nat.le_refl _) _
          have hxz : wz.heap[b6]? = some (.cells (storeCells noStore) 43 (0, 0)) := by rw [hwz, hb6]; exact heap_new _ _ _ rfl
          have hXz := Lib.hid (hX5.out.later hba)
          have hg6 : Hid (w.heap.size + 3 ≤ b6) := by unfold Hid; rw [hb6]; exact hX5.out.size
          have hlt6 : b6 < wz.heap.size := (Array.getElem?_eq_some_iff.1 hxz).1
          refine ⟨fun _ => hXz.out, ?_⟩
          have hbp : Below w5.heap.size w5 (putS wz b6 t2) := set6_below _ _ _ _ _ _ hba (by omega)
          have hW6 : Hid (RdStore (putS wz b6 t2) t2 ∧ FreshS (w.heap.size + 3) t2 ∧ RqX w A c pl dry t' (putS wz b6 t2)) := ⟨hr2.below hbp, (fun k e => by have := hf2 k e; omega), hX5.out.later hbp⟩
          clear hr2 hf2 hba hbp hwz hb6 hX5
          rotate_left 1
          (try simp only [List.getElem_toArray, List.getElem_cons_zero, List.getElem_cons_succ])
          go_simp
          obtain ⟨b6, hb6⟩ : ∃ b, b = wq.heap.size := ⟨_, rfl⟩
          rw [← hb6]
          obtain ⟨wa, hwa⟩ : ∃ x, x = wq.alloc (.cells (storeCells noStore) 43) := ⟨_, rfl⟩
          unfold storeCells noStore at hwa
          simp only [List.length_nil] at hwa
          rw [← hwa]
          have hba : Below wq.heap.size wq wa := by rw [hwa]; exact (Below.refl _ wq).alloc (Nat.le_refl _) _
          have hxa : wa.heap[b6]? = some (.cells (storeCells noStore) 43 (0, 0)) := by rw [hwa, hb6]; exact heap_new _ _ _ rfl
          have hXa := Lib.hid (hXq.out.later hba)
          have hg6 : Hid (w.heap.size + 3 ≤ b6) := by unfold Hid; rw [hb6]; exact hXq.out.size
          have hlta : b6 < wa.heap.size := (Array.getElem?_eq_some_iff.1 hxa).1
          refine ⟨fun _ => hXa.out, ?_⟩
          replace hba := Lib.hid hba
          have hbq : Hid (wq.heap.size ≤ b6) := by unfold Hid; omega
          clear hwa hb6
          refine wpTree_do rfl (by rfl) ?_
          (try simp only [List.getElem_toArray, List.getElem_cons_zero, List.getElem_cons_succ])
          go_simp
          go_at_call 36
          (with_reducible refine (c36.out _ hXa.out).mono ?_)
          rintro e w5 ⟨t2, rfl, hs2, hr2, hb5, hf2⟩
          have hXz := Lib.hid (hXa.out.later hb5)
          have hxz := (hb5.block b6 hlta).trans hxa
          have hz4 := hXa.out.size
          refine ⟨fun _ => hXz.out, ?_⟩
          have hbp : Below wq.heap.size wq (putS w5 b6 t2) := set6_below _ _ _ _ _ _ (hba.out.trans (hb5.mono hba.out.size)) hbq.out
          have hW6 : Hid (RdStore (putS w5 b6 t2) t2 ∧ FreshS (w.heap.size + 3) t2 ∧ RqX w A c pl dry t' (putS w5 b6 t2)) := ⟨hr2.over hf2 hlta hxz fun k hk => set6_other _ _ _ _ _ _ hk, (fun k e => by have := hf2 k e; omega), hXq.out.later hbp⟩
          obtain ⟨wz, rfl⟩ : ∃ x, x = w5 := ⟨_, rfl⟩
          clear hr2 hf2 hb5 hxa hXa hlta hba hbq hbp
          refine wpTree_pure (v := ?_) rfl (by rfl) ?_ (fun _ _ _ h => h) ?_
          rotate_left
          focus (intro w'; (try simp only [List.getElem_toArray, List.getElem_cons_zero, List.getElem_cons_succ]); go_simp; try with_reducible rfl)
          simp only [List.getElem_toArray, List.getElem_cons_zero, List.getElem_cons_succ, Act.put, List.setIfInBounds_toArray, List.set_cons_zero, List.set_cons_succ]
          refine wpTree_pure (v := ?_) rfl (by rfl) ?_ (fun _ _ _ h => h) ?_
          rotate_left
          focus (intro w'; (try simp only [List.getElem_toArray, List.getElem_cons_zero, List.getElem_cons_succ]); go_simp; try with_reducible rfl)
          simp only [List.getElem_toArray, List.getElem_cons_zero, List.getElem_cons_succ, Act.put, List.setIfInBounds_toArray, List.set_cons_zero, List.set_cons_succ]
          refine wpTree_pure (v := ?_) rfl (by rfl) ?_ (fun _ _ _ h => h) ?_
          rotate_left
          focus (intro w'; (try simp only [List.getElem_toArray, List.getElem_cons_zero, List.getElem_cons_succ]); go_simp; try with_reducible rfl)
          simp only [List.getElem_toArray, List.getElem_cons_zero, List.getElem_cons_succ, Act.put, List.setIfInBounds_toArray, List.set_cons_zero, List.set_cons_succ]
          all_goals
            have hfr : ∀ j, wz.frozen? ⟨b6, j, none⟩ = false := fun j => frozen_of_row wz _ j _ _ hxz
            have f0 := hfr 0
            have f1 := hfr 1
            have f2 := hfr 2
            have f3 := hfr 3
            have f4 := hfr 4
            have f5 := hfr 5
            obtain ⟨m0, m1, m2, m3, m4, m5⟩ := six_cells hxz
            clear hfr
            refine wpTree_do rfl (by rfl) ?_
            (try simp only [List.getElem_toArray, List.getElem_cons_zero, List.getElem_cons_succ])
            go_simp
            obtain ⟨w6, hw6⟩ : ∃ x, x = putS wz b6 t2 := ⟨_, rfl⟩
            rw [← hw6] at hW6
            have hx6 : w6.heap[b6]? = some (.cells (storeCells t2) 43 (0, 0)) := by rw [hw6]; exact set6 _ _ _ _ _ _ hxz
            unfold putS at hw6
            rw [← hw6]
            clear f0 f1 f2 f3 f4 f5 m0 m1 m2 m3 m4 m5 hxz hXz
            replace hw6 := Lib.hid hw6
            replace hs2 := Lib.hid hs2
            obtain ⟨hr6, hf6, hX6⟩ := hW6.out
            replace hX6 := Lib.hid hX6
            replace hr6 := Lib.hid hr6
            replace hf6 := Lib.hid hf6
            refine wpTree_pure (v := ?_) rfl (by rfl) ?_ (fun _ _ _ h => h) ?_
            rotate_left
            focus (intro w'; (try simp only [List.getElem_toArray, List.getElem_cons_zero, List.getElem_cons_succ]); go_simp; try with_reducible rfl)
            simp only [List.getElem_toArray, List.getElem_cons_zero, List.getElem_cons_succ, Act.put, List.setIfInBounds_toArray, List.set_cons_zero, List.set_cons_succ]
            unfold wpTree
            obtain ⟨er, her⟩ : ∃ er, er = r.1 := ⟨_, rfl⟩
            rw [← her]
            replace her := Lib.hid her
            by_cases he : er = 0
            · have heb : (er != 0) = false := by simpa using he
              have hz6 := hX6.out.size
              obtain ⟨x0, x1, x2, x3, x4, x5⟩ := six_cells hx6
              obtain ⟨m0, m1, m2, m3, m4, m5⟩ := six_cells hX6.out.store
              have hfr : ∀ j, w6.frozen? ⟨w.heap.size + 1, j, none⟩ = false := fun j => frozen_of_row w6 _ j _ _ hX6.out.store
              have f0 := hfr 0
              have f1 := hfr 1
              have f2 := hfr 2
              have f3 := hfr 3
              have f4 := hfr 4
              have f5 := hfr 5
              clear hfr
              have hdo : (doP pl dry t' l[k]).1 = 0 := by rw [← ha.out, ← hrr.out, ← her.out, he]
              have hI' := Lib.hid (hI.out.step hsu.out hlt hdo)
              have hsu' : Hid (SameC t2 (doP pl dry u l[k]).2) := by
                have := (hsu.out.doP pl dry l[k]).2
                rw [← ha.out, ← hrr.out] at this
                rw [← ha.out]
                exact hs2.out.trans this
              have hX7 := Lib.hid (hX6.out.put hr6.out (Nat.le_refl _) hf6.out)
              replace he := Lib.hid he
              replace hx6 := Lib.hid hx6
              go_wp2_with fail
              exact ⟨⟨k + 1, t2, _, by go_num, by omega, hsu', hI', hf6, hX7⟩, by simp only [intOf]; omega⟩
            · have heb : (er != 0) = true := by simpa using he
              obtain ⟨m0, m1, m2, m3, m4, m5⟩ := six_cells hX6.out.store
              obtain ⟨x0, x1, x2, x3, x4, x5⟩ := six_cells hX6.out.out
              have hfr : ∀ j, w6.frozen? ⟨w.heap.size + 1 + 1, j, none⟩ = false := fun j => frozen_of_row w6 _ j _ _ hX6.out.out
              have f0 := hfr 0
              have f1 := hfr 1
              have f2 := hfr 2
              have f3 := hfr 3
              have f4 := hfr 4
              have f5 := hfr 5
              clear hfr
              have hdo : (doP pl dry t' l[k]).1 ≠ 0 := by rw [← ha.out, ← hrr.out, ← her.out]; exact he
              have hst := hI.out.stop hsu.out hlt hdo
              rw [← ha.out, ← hrr.out, ← her.out] at hst
              have hre : Hid (runP pl dry s l = (u, (k : Int), er)) := hr.out.trans hst
              clear hst
              replace he := Lib.hid he
              replace hx6 := Lib.hid hx6
              go_wp2_with fail
              exact hX6.out.fin (v := t') hX6.out.rd hF.out hsu.out hre.out Try.results40 rfl rfl rfl
        · have hre : Hid (runP pl dry s l = (u, (l.length : Int), 0)) := by
            have e : k = l.length := by omega
            subst e
            exact hr.out.trans (hI.out.done (Nat.le_refl _))
          obtain ⟨m0, m1, m2, m3, m4, m5⟩ := six_cells hX.out.store
          obtain ⟨x0, x1, x2, x3, x4, x5⟩ := six_cells hX.out.out
          have hfr : ∀ j, wr.frozen? ⟨w.heap.size + 1 + 1, j, none⟩ = false := fun j => frozen_of_row wr _ j _ _ hX.out.out
          have f0 := hfr 0
          have f1 := hfr 1
          have f2 := hfr 2
          have f3 := hfr 3
          have f4 := hfr 4
          have f5 := hfr 5
          clear hfr
          go_wp2_with fail
          exact hX.out.fin (v := t') hX.out.rd hF.out hsu.out hre.out Try.results40 rfl rfl rfl
  · have hr : Hid (runP pl dry s l = (noStore, 0, ck)) := by unfold Hid runP; rw [← hckE, if_pos h0]
    have h0b : (ck != 0) = true := by simpa using h0
    have h0c : (ck == 0) = false := by simpa using h0
    replace hckE := Lib.hid hckE
    replace h0 := Lib.hid h0
    go_wp2_with (first | (go_at_call 29; (with_reducible refine (hck.out _ hX0.out).mono ?_); rintro e w1 ⟨rfl, hb1⟩; have hX1 := Lib.hid (hX0.out.later hb1); obtain ⟨m0, m1, m2, m3, m4, m5⟩ := six_cells hX1.out.out; have hfr : ∀ j, w1.frozen? ⟨w.heap.size + 1 + 1, j, none⟩ = false := (fun j => frozen_of_row w1 _ j _ _ hX1.out.out); have f0 := hfr 0; have f1 := hfr 1; have f2 := hfr 2; have f3 := hfr 3; have f4 := hfr 4; have f5 := hfr 5; clear hfr))
    exact hX1.out.fin (v := noStore) (rd_noStore _) (fresh_none _) (SameC.refl _) hr.out Try.results40 rfl rfl rfl
end Go.Proofs.Ytpgkhlpepckfgaa
end
section
namespace Go.Proofs.Ytpgkhlpepckfgaa
open Go.RowKit Go.Lib

/-- What Long answers. -/
def LongOut (l : List Chore) (w : World) (e : Ending) (w' : World) : Prop := (∃ b : Bool, e = .returned (.bool b) ∧ (b = false → l.length ≤ 300)) ∧ Below w.heap.size w w'
set_option maxHeartbeats 1000000 in
set_option maxRecDepth 100000 in
theorem long_any (B : Option Addr) (cb : Nat) (l : List Chore) (w : World) (h : RdChores w B l) :
    Calls Try.prog 39 #[.slice B l.length cb] w (LongOut l w) := by
  have hl := h.1.1
  go_enter Try.func39, Try.ntmps39
  go_wp2
  go_loopw [3, 4] (fun s i wr => ∃ (x : Int) (k : Nat), s = .int .i64 x ∧ i = .int .i64 k ∧ k ≤ l.length ∧ Hid (Below w.heap.size w wr)) (fun _ i _ => l.length - (intOf i).toNat)
  case atStart => exact ⟨0, 0, rfl, rfl, by omega, Below.refl _ w⟩
  case round =>
    obtain ⟨x, k, rfl, rfl, hk, hB⟩ := hrel
    by_cases h30 : k ≤ 300
    · by_cases hlt : k < l.length
      · obtain ⟨ad, hA, p0, p1, p2, p3, p4, p5, p6, p7, p8⟩ := (h.1.below hB.out).at9 hlt rfl
        subst hA
        have nb := (h.2 _ (List.getElem_mem hlt)).1
        have ob := (h.2 _ (List.getElem_mem hlt)).2.1
        go_wp2
        go_big_quiet (fail)
        go_wp2
        exact ⟨⟨_, k + 1, rfl, by go_num, by omega, hB.out.trans (below_drewN_ _ _)⟩, by simp only [intOf]; omega⟩
      · have hke : l.length ≤ 300 := by omega
        by_cases h1 : 40 < l.length
        · by_cases h2 : l.length ≤ 200
          · go_wp2
            exact bodyPost_ret (v := .bool true) (by simp [results, Try.results39, go_sem]) rfl ⟨⟨_, rfl, fun _ => hke⟩, hB.out⟩
          · go_wp2
            exact bodyPost_ret (v := .bool (decide ((l.length : Int) ≤ 200) || decide ((300 : Int) < l.length) || decide (2000 < x))) (by simp [results, Try.results39, go_sem]) rfl ⟨⟨_, rfl, fun _ => hke⟩, hB.out⟩
        · go_wp2
          exact bodyPost_ret (v := .bool (decide ((300 : Int) < l.length) || decide (2000 < x))) (by simp [results, Try.results39, go_sem]) rfl ⟨⟨_, rfl, fun _ => hke⟩, hB.out⟩
    · have h3 : 300 < l.length := by omega
      have h1 : 40 < l.length := by omega
      have h2 : ¬ l.length ≤ 200 := by omega
      by_cases hlt : k < l.length
      all_goals
        go_wp2
        exact bodyPost_ret (v := .bool true) (by simp [results, Try.results39, go_sem]) rfl ⟨⟨_, rfl, fun e => by cases e⟩, hB.out⟩
end Go.Proofs.Ytpgkhlpepckfgaa
end
section
namespace Go.Proofs.Ytpgkhlpepckfgaa
open Go.RowKit Go.Lib
/-- The farm and the store. -/
structure LY (w : World) (A : Option Addr) (c : Nat) (pl : List Plot) (dry : Int) (s : Store) (W : World) : Prop where
  below : Below w.heap.size w W
  farm : W.heap[w.heap.size]? = some (.cells #[.slice A pl.length c, .int .i64 dry] 24 (0, 0))
  store : W.heap[w.heap.size + 1]? = some (.cells (storeCells s) 43 (0, 0))
  size : w.heap.size + 2 ≤ W.heap.size
section
variable {w : World} {A : Option Addr} {c : Nat} {pl : List Plot} {dry : Int} {s : Store} {W W' : World}
theorem LY.make : LY w A c pl dry s ((w.alloc (.cells #[.slice A pl.length c, .int .i64 dry] 24)).alloc (.cells (storeCells s) 43)) := by
  refine ⟨((Below.refl _ w).alloc (Nat.le_refl _) _).alloc (by simp) _, ?_, ?_, by simp⟩
  · exact heap_old _ _ _ _ (heap_new _ _ _ rfl)
  · exact heap_new _ _ _ (by simp)
theorem LY.later (h : LY w A c pl dry s W) (hb : Below W.heap.size W W') : LY w A c pl dry s W' := by
  have hz := h.size
  exact ⟨h.below.trans (hb.mono h.below.size), (hb.block _ (by omega)).trans h.farm, (hb.block _ (by omega)).trans h.store, Nat.le_trans hz hb.size⟩
end

set_option maxHeartbeats 4000000 in
set_option maxRecDepth 100000 in
theorem runs_any (A : Option Addr) (c : Nat) (pl : List Plot) (dry : Int) (s : Store) (B : Option Addr) (cb : Nat) (l : List Chore) (w : World) (h : RdPlots w A pl) (hs : RdStore w s) (hl : RdChores w B l) :
    Calls Try.prog 9 #[.agg #[.slice A pl.length c, .int .i64 dry], storeVal s, .slice B l.length cb] w fun e w' => e = .returned (.bool true) ∧ Below w.heap.size w w' := by
  obtain ⟨W0, hW0⟩ : ∃ W0, W0 = ((w.alloc (.cells #[.slice A pl.length c, .int .i64 dry] 24)).alloc (.cells (storeCells s) 43)) := ⟨_, rfl⟩
  have hX0 : Hid (LY w A c pl dry s W0) := by rw [hW0]; exact LY.make
  obtain ⟨p0, p1⟩ := cells2 hX0.out.farm
  go_enter Try.func9, Try.ntmps9
  go_upto_region 1 with fail
  rw [← hW0]
  replace hW0 := Lib.hid hW0
  go_wp2_with (first | (go_at_call 16; refine (great_any _ _ pl _ _ (h.below hX0.out.below)).mono ?_; rintro e w1 ⟨⟨b, rfl, hgr⟩, hb1⟩; have hX1 := Lib.hid (hX0.out.later hb1); obtain ⟨k0, k1, k2, k3, k4, k5⟩ := six_cells hX1.out.store) | (go_at_call 22; refine (wide_any s _ (hs.below hX1.out.below)).mono ?_; rintro e w2 ⟨⟨b2, rfl, hwd⟩, hb2⟩; have hX2 := Lib.hid (hX1.out.later hb2)) | (go_at_call 39; refine (long_any _ _ l _ (hl.below hX2.out.below)).mono ?_; rintro e w9 ⟨⟨b9, rfl, hlg⟩, hb9⟩; have hX9 := Lib.hid (hX2.out.later hb9); obtain ⟨p2, p3⟩ := cells2 hX9.out.farm; obtain ⟨l0, l1, l2, l3, l4, l5⟩ := six_cells hX9.out.store) | (go_at_call 17; refine (lives_any _).mono ?_; rintro e wL ⟨rfl, hbL⟩))
  · go_ret
    exact ⟨rfl, (hX1.out.later hbL).below⟩
  · go_ret
    exact ⟨rfl, (hX2.out.later hbL).below⟩
  · go_ret
    exact ⟨rfl, (hX9.out.later hbL).below⟩
  · obtain ⟨w1b, w2b, w3b, _, _, w6b⟩ := hwd (by first | rfl | assumption | simp_all)
    have hu : s.used.length ≤ 1000000 := by omega
    have hwl : s.waste.length ≤ 1000000 := by omega
    have hh : ∀ x ∈ s.heaps, x.parts.length ≤ 1000000 := fun x hx => Nat.le_trans (w6b x hx) (by decide)
    obtain ⟨r, hr⟩ : ∃ r, r = runP pl dry s l := ⟨_, rfl⟩
    have c38 : ∀ W, LY w A c pl dry s W → Calls Try.prog 38 #[.agg #[.slice A pl.length c, .int .i64 dry], storeVal s, .slice B l.length cb] W (RunOut r W) := fun W hW => hr ▸ run_any A c pl dry s B cb l W (h.below hW.below) (hs.below hW.below) (hl.below hW.below) hu hwl hh
    have c40 : ∀ W, LY w A c pl dry s W → Calls Try.prog 40 #[.agg #[.slice A pl.length c, .int .i64 dry], storeVal s, .slice B l.length cb] W (RunOut r W) := fun W hW => hr ▸ rrun_any A c pl dry s B cb l W (h.below hW.below) (hs.below hW.below) (hl.below hW.below) hu hwl hh
    replace c38 := Lib.hid c38
    replace c40 := Lib.hid c40
    replace hr := Lib.hid hr
    go_at_call 38
    (with_reducible refine (c38.out _ hX9.out).mono ?_)
    rintro e w3 ⟨t, rfl, hst, hrt, hb3, _⟩
    have hX3 := Lib.hid (hX9.out.later hb3)
    clear k0 k1 k2 k3 k4 k5 p0 p1 p2 p3 l0 l1 l2 l3 l4 l5 hgr hwd hlg hb1 hb2 hb3 hb9 c38
    replace hst := Lib.hid hst
    go_upto_region 4 with fail
    obtain ⟨wt, hwt⟩ : ∃ x, x = w3.alloc (.cells (storeCells t) 43) := ⟨_, rfl⟩
    obtain ⟨bt, hbt⟩ : ∃ x, x = w3.heap.size := ⟨_, rfl⟩
    rw [← hwt, ← hbt]
    have hbw : Below w3.heap.size w3 wt := by rw [hwt]; exact (Below.refl _ w3).alloc (Nat.le_refl _) _
    have hxt : wt.heap[bt]? = some (.cells (storeCells t) 43 (0, 0)) := by rw [hwt, hbt]; exact heap_new _ _ _ rfl
    have hXt := Lib.hid (hX3.out.later hbw)
    have qt := hrt.below hbw
    clear hbw hrt
    replace hwt := Lib.hid hwt
    replace hbt := Lib.hid hbt
    obtain ⟨p2, p3⟩ := cells2 hXt.out.farm
    obtain ⟨m0, m1, m2, m3, m4, m5⟩ := six_cells hXt.out.store
    go_wp2_with fail
    go_at_call 40
    (with_reducible refine (c40.out _ hXt.out).mono ?_)
    rintro e w4 ⟨u, rfl, hsu, hru, hb4, _⟩
    have hX4 := Lib.hid (hXt.out.later hb4)
    have q4 := qt.below hb4
    have hx4 := (hb4.block bt (Array.getElem?_eq_some_iff.1 hxt).1).trans hxt
    clear p2 p3 m0 m1 m2 m3 m4 m5 hb4 hxt qt c40
    replace hsu := Lib.hid hsu
    go_upto_region 5 with fail
    obtain ⟨wu, hwu⟩ : ∃ x, x = w4.alloc (.cells (storeCells u) 43) := ⟨_, rfl⟩
    obtain ⟨bu, hbu⟩ : ∃ x, x = w4.heap.size := ⟨_, rfl⟩
    rw [← hwu, ← hbu]
    have hbw : Below w4.heap.size w4 wu := by rw [hwu]; exact (Below.refl _ w4).alloc (Nat.le_refl _) _
    have hxu : wu.heap[bu]? = some (.cells (storeCells u) 43 (0, 0)) := by rw [hwu, hbu]; exact heap_new _ _ _ rfl
    have hXu := Lib.hid (hX4.out.later hbw)
    have qu := hru.below hbw
    have qt := q4.below hbw
    have hx5 := (hbw.block bt (Array.getElem?_eq_some_iff.1 hx4).1).trans hx4
    clear hbw hru q4 hx4
    replace hwu := Lib.hid hwu
    replace hbu := Lib.hid hbu
    obtain ⟨m0, m1, m2, m3, m4, m5⟩ := six_cells hx5
    obtain ⟨n0, n1, n2, n3, n4, n5⟩ := six_cells hxu
    replace hx5 := Lib.hid hx5
    replace hxu := Lib.hid hxu
    have c27 := Lib.hid (sameStore_any t u wu qt qu (hst.out.trans hsu.out.symm).toS)
    clear qt qu
    go_wp2_with (first | (go_at_call 27; refine c27.out.mono ?_; rintro e w6 ⟨rfl, hb6⟩; have hX6 := Lib.hid (hXu.out.later hb6)) | (go_at_call 17; refine (lives_any _).mono ?_; rintro e wL ⟨rfl, hbL⟩))
    go_ret
    exact ⟨rfl, (hX6.out.later hbL).below⟩
end Go.Proofs.Ytpgkhlpepckfgaa
end
section
namespace Go.Proofs.Ytpgkhlpepckfgaa
open Go.RowKit Go.Lib Go.ChangeShapes Go.WideShapes
section
variable {H : Type} {enc : TypeId × Value → H} {w : World} {base : Nat} {spare : Nat → Bool} {held : Bool}
variable {r : Reach} {b0 : Nat} {v : Value} {d : DataW H} {p : List MemPlace}
set_option maxRecDepth 100000 in
/-- A row of chores, opened. -/
theorem open_row68 (hv : Value.okWide Try.prog w r b0 68 v) (h : DataW.Trod enc Try.prog w base spare held 68 v d p) (hs : Small 68 d) : ∃ A c, ∃ l : List Chore, v = .slice A l.length c ∧ RdChores w A l := by
  obtain ⟨a, len, cap, rfl⟩ := okWide_slice Try.underlying68 hv
  obtain ⟨fuel, hf⟩ := h
  have hf' : DataW.trod enc Try.prog w base spare held fuel 68 [.slice a len cap] = some (d, p) := by simpa [Value.cells] using hf
  obtain ⟨A, c, l, e, hr, hq⟩ := open_flat (Q := WellC) Try.underlying68 cells64 (enc' := encChore) (fun _ => rfl) (of_decide_eq_true (by kernel_rfl)) (fun n cs x hx hsx => trod_chore hx hsx) hf' hs
  exact ⟨A, c, l, e, hr, hq⟩
end
end Go.Proofs.Ytpgkhlpepckfgaa
end
