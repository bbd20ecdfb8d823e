/-
  Whether a store may be, as the specification has it: walked.
-/
import Derived.Test.YtpgkhlpepckfgaaXa17
import Derived.Test.YtpgkhlpepckfgaaXa18
import Derived.Deep.RegionHeld3
set_option linter.all false
set_option linter.unusedVariables false
set_option linter.unusedSimpArgs false
namespace Go.Proofs.Ytpgkhlpepckfgaa
open Go.RowKit Go.Lib

/-- From world w on: the farm and the store in their variables. -/
structure FS (w : World) (A : Option Addr) (c : Nat) (pl : List Plot) (dry : Int) (s : Store) (wr : World) : Prop where
  below : Below w.heap.size w wr
  farm : wr.heap[w.heap.size]? = some (.cells #[.slice A pl.length c, .int .i64 dry] 24 (0, 0))
  store : wr.heap[w.heap.size + 1]? = some (.cells (storeCells s) 43 (0, 0))
  size : w.heap.size + 2 ≤ wr.heap.size
section
variable {w : World} {A : Option Addr} {c : Nat} {pl : List Plot} {dry : Int} {s : Store} {wr wx : World}
theorem FS.later (h : FS w A c pl dry s wr) (hb : Below wr.heap.size wr wx) : FS w A c pl dry s wx := by
  have := h.size
  exact ⟨h.below.trans (hb.mono h.below.size), (hb.block _ (by omega)).trans h.farm, (hb.block _ (by omega)).trans h.store, Nat.le_trans h.size hb.size⟩
theorem FS.start : FS w A c pl dry s ((w.alloc (.cells #[.slice A pl.length c, .int .i64 dry] 24)).alloc (.cells (storeCells s) 43)) :=
  ⟨((Below.refl _ w).alloc (Nat.le_refl _) _).alloc (by simp) _, heap_old _ _ _ _ (heap_new _ _ _ rfl), heap_new _ _ _ (by simp), by simp⟩
theorem FS.cells (h : FS w A c pl dry s wr) : wr.cell? ⟨w.heap.size, 0, none⟩ = some (.slice A pl.length c) ∧ wr.cell? ⟨w.heap.size, 1, none⟩ = some (.int .i64 dry) := by
  constructor <;> simp [World.cell?, h.farm]
/-- What is read of a store while memory is made. -/
theorem FS.held (h : FS w A c pl dry s wr) {a b : Addr} {x y : Int} {G L : Option Addr} (hG : G = s.ga) (hL : L = s.la) (h1 : a.block < w.heap.size) (h2 : b.block < w.heap.size) (h3 : w.cell? a = some (.int .i64 x)) (h4 : w.cell? b = some (.int .i64 y)) :
    wr.cell? ⟨w.heap.size + 1, 0, none⟩ = some (.int .i64 s.year) ∧ wr.cell? ⟨w.heap.size + 1, 1, none⟩ = some (.slice L s.last.length s.lc) ∧ wr.cell? ⟨w.heap.size + 1, 2, none⟩ = some (.slice G s.given.length s.gc) ∧ wr.cell? ⟨w.heap.size + 1, 3, none⟩ = some (.slice s.ha s.heaps.length s.hc) ∧ wr.cell? ⟨w.heap.size + 1, 4, none⟩ = some (.slice s.ua s.used.length s.uc) ∧ wr.cell? ⟨w.heap.size + 1, 5, none⟩ = some (.slice s.wa s.waste.length s.wc) ∧
      wr.cell? a = some (.int .i64 x) ∧ wr.cell? b = some (.int .i64 y) ∧ FS w A c pl dry s wr := by
  subst hG hL
  obtain ⟨x0, x1, x2, x3, x4, x5⟩ := six_cells h.store
  exact ⟨x0, x1, x2, x3, x4, x5, (h.below.cell h1).trans h3, (h.below.cell h2).trans h4, h⟩
end

set_option maxHeartbeats 2000000 in
set_option maxRecDepth 100000 in
theorem stored_any (A : Option Addr) (c : Nat) (pl : List Plot) (dry : Int) (s : Store) (w : World) (hp12 : pl.length ≤ 12) (h : RdPlots w A pl) (hs : RdStore w s) (hu : s.used.length ≤ 1000000) (hw : s.waste.length ≤ 1000000) (hh : ∀ x ∈ s.heaps, x.parts.length ≤ 1000000) :
    Calls Try.prog 63 #[.agg #[.slice A pl.length c, .int .i64 dry], storeVal s] w fun e w' => e = .returned (.bool (storeB pl s)) ∧ Below w.heap.size w w' := by
  have hl1 := h.1.1
  have b1 := hs.last.1
  have b2 := hs.given.1
  have b3 := hs.heaps.1.1
  obtain ⟨W0, hW0⟩ : ∃ W0, W0 = (w.alloc (.cells #[.slice A pl.length c, .int .i64 dry] 24)).alloc (.cells (storeCells s) 43) := ⟨_, rfl⟩
  have hF0 : FS w A c pl dry s W0 := by rw [hW0]; exact FS.start
  obtain ⟨d1, d2⟩ := hF0.cells
  obtain ⟨k0, k1, k2, k3, k4, k5⟩ := six_cells hF0.store
  have hz1 : w.heap.size + 1 < W0.heap.size := hF0.size
  have hz0 : w.heap.size < W0.heap.size := by omega
  replace hF0 := Lib.hid hF0
  cases q : storeHead pl s with
  | false =>
    have hst : Hid (storeB pl s = false) := by unfold Hid; rw [storeB_eq, q]; rfl
    replace q := Lib.hid q
    go_enter Try.func63, Try.ntmps63
    go_wp2_with fail
    rw [← hW0]
    replace hW0 := Lib.hid hW0
    go_wp2_with (first | (go_at_call 49; refine (rin_any _ _ _ _).mono ?_; rintro e w' ⟨rfl, rfl⟩) | (go_at_call 87; first | ((with_reducible refine (ordered_any _ _ _ _ pl dry s.waste _ (h.below (hF0.out.later hb2).below) (hs.waste.below (hF0.out.later hb2).below)).mono ?_); rintro e w3 ⟨rfl, hb3⟩) | ((with_reducible refine (ordered_any _ _ _ _ pl dry s.used _ (h.below hF0.out.below) (hs.used.below hF0.out.below)).mono ?_); rintro e w2 ⟨rfl, hb2⟩; obtain ⟨r2, s2⟩ := bcell hb2)))
    all_goals first
      | (exfalso; have q := q.out; simp_all [storeHead]; done)
      | (exfalso; have q := q.out; simp_all [storeHead]; omega)
      | (go_ret; refine ⟨by rw [hst.out]; rfl, ?_⟩; first | exact ((hF0.out.later hb2).later hb3).below | exact (hF0.out.later hb2).below | exact hF0.out.below)
  | true =>
    have q' := q
    simp only [storeHead, Bool.and_eq_true, decide_eq_true_eq] at q'
    obtain ⟨⟨⟨⟨⟨t1, t2⟩, t3⟩, t4⟩, t5⟩, t6⟩ := q'
    have e2 : ((s.last.length : Int) != (pl.length : Int)) = false := by rw [t2]; simp
    have e3 : ((s.given.length : Int) != (pl.length : Int)) = false := by rw [t3]; simp
    have e4 : decide (16 < (s.heaps.length : Int)) = false := by simp; omega
    have hbq : storeB pl s = (allB (heapAt pl s.heaps) s.heaps.length && decide (totalS s ≤ 100000) && allB (fieldAt s) pl.length) := by rw [storeB_eq, q, Bool.true_and]
    have m5 := Lib.hid (proper_mild t5 hu)
    have m6 := Lib.hid (proper_mild t6 hw)
    replace q := Lib.hid q
    replace hbq := Lib.hid hbq
    replace t2 := Lib.hid t2
    replace t3 := Lib.hid t3
    go_enter Try.func63, Try.ntmps63
    go_wp2_with fail
    rw [← hW0]
    replace hW0 := Lib.hid hW0
    go_wp2_with (first | (go_at_call 49; refine (rin_any _ _ _ _).mono ?_; rintro e w' ⟨rfl, rfl⟩) | (go_at_call 87; first | ((with_reducible refine (ordered_any _ _ _ _ pl dry s.waste _ (h.below (hF0.out.later hb2).below) (hs.waste.below (hF0.out.later hb2).below)).mono ?_); rintro e w3 ⟨rfl, hb3⟩; have hF3 := Lib.hid ((hF0.out.later hb2).later hb3)) | ((with_reducible refine (ordered_any _ _ _ _ pl dry s.used _ (h.below hF0.out.below) (hs.used.below hF0.out.below)).mono ?_); rintro e w2 ⟨rfl, hb2⟩; obtain ⟨r2, s2⟩ := bcell hb2)))
    clear r2 s2 k0 k1 k2 k3 k4 k5 d1 d2
    go_loopw [5] (fun v wr => ∃ k : Nat, v = .int .i64 k ∧ k ≤ s.heaps.length ∧ Hid (∀ j, j < k → heapAt pl s.heaps j = true) ∧ Hid (FS w A c pl dry s wr)) (fun v _ => s.heaps.length - (intOf v).toNat)
    case atStart => exact ⟨0, rfl, Nat.zero_le _, (fun j hj => absurd hj (Nat.not_lt_zero _)), hF3⟩
    case round =>
      obtain ⟨k, rfl, hk, hall, hF⟩ := hrel
      obtain ⟨d1, d2⟩ := hF.out.cells
      obtain ⟨k0, k1, k2, k3, k4, k5⟩ := six_cells hF.out.store
      by_cases hlt : k < s.heaps.length
      · cases hA : heapAt pl s.heaps k with
        | false =>
          replace hA := Lib.hid hA
          go_wp2_with (go_at_call 88; refine (rheap_any A c pl dry s k _ (h.below hF.out.below) (hs.below hF.out.below) hlt hh).mono ?_; rintro e w4 ⟨rfl, hb4⟩; rw [hA.out])
          go_ret
          exact ⟨by rw [hbq.out, allB_stop hlt hA.out, Bool.false_and, Bool.false_and]; rfl, (hF.out.later hb4).below⟩
        | true =>
          replace hA := Lib.hid hA
          go_wp2_with (go_at_call 88; refine (rheap_any A c pl dry s k _ (h.below hF.out.below) (hs.below hF.out.below) hlt hh).mono ?_; rintro e w4 ⟨rfl, hb4⟩; rw [hA.out])
          exact ⟨⟨k + 1, by go_num, by omega, succ_all hall.out hA.out, hF.out.later hb4⟩, by simp only [intOf]; omega⟩
      · have hke : k = s.heaps.length := by omega
        subst hke
        have hM : Hid (MildH s.heaps) := ⟨by omega, fun x hx => by
          have := mild_taken hk hh hall.out
          rw [List.take_length] at this
          exact this x hx⟩
        obtain ⟨wo, rfl⟩ : ∃ x, x = wr := ⟨wr, rfl⟩
        clear hk hlt
        by_cases htt : totalS s ≤ 100000
        · go_wp2_with (go_at_call 89; refine (total_any s _ (hs.below hF.out.below) hM.out m5.out m6.out).mono ?_; rintro e w5 ⟨rfl, hb5⟩)
          have hF5 := Lib.hid (hF.out.later hb5)
          replace htt := Lib.hid htt
          clear k0 k1 k2 k3 k4 k5 d1 d2
          go_loopw [6] (fun v wr => ∃ j : Nat, v = .int .i64 j ∧ j ≤ pl.length ∧ Hid (∀ x, x < j → fieldAt s x = true) ∧ Hid (FS w A c pl dry s wr)) (fun v _ => pl.length - (intOf v).toNat)
          case atStart => exact ⟨0, rfl, Nat.zero_le _, (fun j hj => absurd hj (Nat.not_lt_zero _)), hF5⟩
          case round =>
            obtain ⟨j, rfl, hj, hfa, hF⟩ := hrel
            by_cases hlt : j < pl.length
            · have hjg : j < s.given.length := by rw [t3.out]; exact hlt
              have hjl : j < s.last.length := by rw [t2.out]; exact hlt
              obtain ⟨ag, hag, gg⟩ := FlatRow.at1 hs.given hjg rfl
              obtain ⟨al, hal, gl⟩ := FlatRow.at1 hs.last hjl rfl
              have hFa : fieldAt s j = (inB s.last[j] (-1) s.year && decide (s.given[j] = leftL s.heaps j + ofL s.used j + ofL s.waste j)) := by
                unfold fieldAt; rw [getD_lt _ hjg, getD_lt _ hjl]
              obtain ⟨gj, hgj⟩ : ∃ gj, gj = s.given[j] := ⟨_, rfl⟩
              obtain ⟨lj, hlj⟩ : ∃ lj, lj = s.last[j] := ⟨_, rfl⟩
              rw [← hgj] at gg hFa
              rw [← hlj] at gl hFa
              have zg := World.block_lt_of_cell? w _ gg
              have zl := World.block_lt_of_cell? w _ gl
              have hag' : Hid (some ag = s.ga) := hag.symm
              have hal' : Hid (some al = s.la) := hal.symm
              replace gg := Lib.hid gg
              replace gl := Lib.hid gl
              clear hgj hlj hag hal
              obtain ⟨k0, k1, k2, k3, k4, k5, ka, kb, _⟩ := hF.out.held hag'.out hal'.out zg zl gg.out gl.out
              obtain ⟨u1, u2⟩ := m5.out.of j
              obtain ⟨u3, u4⟩ := m6.out.of j
              obtain ⟨u5, u6⟩ := leftL_bounds (j : Int) hM.out.2
              have u7 := hM.out.1
              obtain ⟨lf, hlf⟩ : ∃ lf, lf = leftL s.heaps j := ⟨_, rfl⟩
              obtain ⟨of1, hof1⟩ : ∃ x, x = ofL s.used j := ⟨_, rfl⟩
              obtain ⟨of2, hof2⟩ : ∃ x, x = ofL s.waste j := ⟨_, rfl⟩
              rw [← hlf] at u5 u6 hFa
              rw [← hof1] at u1 u2 hFa
              rw [← hof2] at u3 u4 hFa
              have hcl : ∀ W, FS w A c pl dry s W → Calls Try.prog 65 #[.agg #[.int .i64 s.year, .slice (some al) s.last.length s.lc, .slice (some ag) s.given.length s.gc, .slice s.ha s.heaps.length s.hc, .slice s.ua s.used.length s.uc, .slice s.wa s.waste.length s.wc], .int .i64 j] W fun e w' => e = .returned (.int .i64 lf) ∧ Below W.heap.size W w' := fun W hW => by
                rw [hag'.out, hal'.out, hlf]; exact left_any s j W (hs.below hW.below) hM.out
              have hc1 : ∀ W, FS w A c pl dry s W → Calls Try.prog 64 #[.slice s.ua s.used.length s.uc, .int .i64 j] W fun e w' => e = .returned (.int .i64 of1) ∧ W = w' := fun W hW => hof1 ▸ of_any _ _ s.used j W (hs.used.below hW.below) m5.out
              have hc2 : ∀ W, FS w A c pl dry s W → Calls Try.prog 64 #[.slice s.wa s.waste.length s.wc, .int .i64 j] W fun e w' => e = .returned (.int .i64 of2) ∧ W = w' := fun W hW => hof2 ▸ of_any _ _ s.waste j W (hs.waste.below hW.below) m6.out
              replace hcl := Lib.hid hcl
              replace hc1 := Lib.hid hc1
              replace hc2 := Lib.hid hc2
              clear hlf hof1 hof2
              have x2 : j < s.last.length := hjl
              cases hin : inB lj (-1) s.year with
              | false =>
                have hq : ∀ W, Calls Try.prog 49 #[.int .i64 lj, .int .i64 (-1), .int .i64 s.year] W fun e w' => e = .returned (.bool false) ∧ w' = W := fun W => (rin_any _ _ _ _).mono fun _ _ ⟨a, b⟩ => ⟨by rw [a, hin], b.symm⟩
                rw [hin] at hFa
                replace hFa := Lib.hid hFa
                replace hin := Lib.hid hin
                go_wp2
                go_big_quiet ((go_at_call 49; exact Calls.quiet_of_same (hq _)))
                go_wp2
                go_ret
                exact ⟨by rw [hbq.out, allB_stop hlt (by rw [hFa.out, Bool.false_and]), Bool.and_false]; rfl, (hF.out.later (below_drewN_ _ _)).below⟩
              | true =>
                rw [hin] at hFa
                have S0 := (hF.out.later ((Below.refl _ _).drew)).held hag'.out hal'.out zg zl gg.out gl.out
                have S0d : FS w A c pl dry s wr.drew := hF.out.later ((Below.refl _ _).drew)
                replace S0 := Lib.hid S0
                go_wp2
                go_region_held3 (fun w' => w'.cell? ⟨w.heap.size + 1, 0, none⟩ = some (.int .i64 s.year) ∧ w'.cell? ⟨w.heap.size + 1, 1, none⟩ = some (.slice (some al) s.last.length s.lc) ∧ w'.cell? ⟨w.heap.size + 1, 2, none⟩ = some (.slice (some ag) s.given.length s.gc) ∧ w'.cell? ⟨w.heap.size + 1, 3, none⟩ = some (.slice s.ha s.heaps.length s.hc) ∧ w'.cell? ⟨w.heap.size + 1, 4, none⟩ = some (.slice s.ua s.used.length s.uc) ∧ w'.cell? ⟨w.heap.size + 1, 5, none⟩ = some (.slice s.wa s.waste.length s.wc) ∧ w'.cell? (ag.add j) = some (.int .i64 gj) ∧ w'.cell? (al.add j) = some (.int .i64 lj) ∧ FS w A c pl dry s w') (first | (with_reducible exact S0.out) | (with_reducible assumption) | (with_reducible exact (FS.later (by assumption) (by assumption)).held hag'.out hal'.out zg zl gg.out gl.out) | (with_reducible exact (by assumption : FS w A c pl dry s _).held hag'.out hal'.out zg zl gg.out gl.out)) (first | (go_at_call 49; (with_reducible refine (rin_any _ _ _ _).mono ?_); rintro e w' ⟨rfl, rfl⟩; rw [hin]) | (go_at_call 64; first | ((with_reducible refine (hc1.out _ (by assumption)).mono ?_); rintro e w' ⟨rfl, rfl⟩) | ((with_reducible refine (hc2.out _ (by assumption)).mono ?_); rintro e w' ⟨rfl, rfl⟩)) | (go_at_call 65; (with_reducible refine (hcl.out _ (by assumption)).mono ?_); rintro e w6 ⟨rfl, hb6⟩; have hF6 : FS w A c pl dry s w6 := FS.later (by assumption) hb6))
                have hw1 : IntKind.i64.wrap (lf + of1) = lf + of1 := IntWalk.i64_in _ (by omega)
                have hw2 : IntKind.i64.wrap (lf + of1 + of2) = lf + of1 + of2 := IntWalk.i64_in _ (by omega)
                by_cases hgf : gj = lf + of1 + of2
                · have bb : (gj != lf + of1 + of2) = false := by rw [hgf]; simp
                  replace hFa := Lib.hid hFa
                  replace hgf := Lib.hid hgf
                  try rw [hw1, hw2]
                  try rw [bb]
                  go_wp2
                  exact ⟨⟨j + 1, by go_num, by omega, succ_all hfa.out (by rw [hFa.out, decide_eq_true hgf.out]; rfl), hF6⟩, by simp only [intOf]; omega⟩
                · have bb : (gj != lf + of1 + of2) = true := bne_iff_ne.2 hgf
                  replace hFa := Lib.hid hFa
                  replace hgf := Lib.hid hgf
                  try rw [hw1, hw2]
                  try rw [bb]
                  go_wp2
                  go_ret
                  exact ⟨by rw [hbq.out, allB_stop hlt (by rw [hFa.out, decide_eq_false hgf.out, Bool.and_false]), Bool.and_false]; rfl, hF6.below⟩
            · have hje : j = pl.length := by omega
              subst hje
              obtain ⟨k0, k1, k2, k3, k4, k5⟩ := six_cells hF.out.store
              have x2 : ¬ (pl.length : Int) < (s.last.length : Int) := by rw [t2.out]; omega
              go_wp2
              go_ret
              exact ⟨by rw [hbq.out, allB_end hall.out, decide_eq_true htt.out, allB_end hfa.out]; rfl, hF.out.below⟩
        · go_wp2_with (go_at_call 89; refine (total_any s _ (hs.below hF.out.below) hM.out m5.out m6.out).mono ?_; rintro e w5 ⟨rfl, hb5⟩)
          go_ret
          exact ⟨by rw [hbq.out, decide_eq_false (by omega), Bool.and_false, Bool.false_and]; rfl, (hF.out.later hb5).below⟩

set_option maxHeartbeats 1000000 in
set_option maxRecDepth 100000 in
theorem rcheckStore_any (A : Option Addr) (c : Nat) (pl : List Plot) (dry : Int) (s : Store) (w : World) (h : RdPlots w A pl) (hs : RdStore w s) (hu : s.used.length ≤ 1000000) (hw : s.waste.length ≤ 1000000) (hh : ∀ x ∈ s.heaps, x.parts.length ≤ 1000000) :
    Calls Try.prog 29 #[.agg #[.slice A pl.length c, .int .i64 dry], storeVal s] w fun e w' => e = .returned (.int .i64 (checkS pl dry s)) ∧ Below w.heap.size w w' := by
  obtain ⟨W0, hW0⟩ : ∃ W0, W0 = (w.alloc (.cells #[.slice A pl.length c, .int .i64 dry] 24)).alloc (.cells (storeCells s) 43) := ⟨_, rfl⟩
  have hF0 : FS w A c pl dry s W0 := by rw [hW0]; exact FS.start
  obtain ⟨d1, d2⟩ := hF0.cells
  obtain ⟨k0, k1, k2, k3, k4, k5⟩ := six_cells hF0.store
  have hz1 : w.heap.size + 1 < W0.heap.size := hF0.size
  have hz0 : w.heap.size < W0.heap.size := by omega
  replace hF0 := Lib.hid hF0
  obtain ⟨ck, hck⟩ : ∃ ck, ck = checkI pl dry := ⟨_, rfl⟩
  have hca := rcheck_any A c pl dry W0 (h.below hF0.out.below)
  rw [← hck] at hca
  replace hca := Lib.hid hca
  by_cases hc0 : ck = 0
  · subst hc0
    have hlen : pl.length ≤ 12 := (checkI_zero hck.symm).1
    cases hb : storeB pl s with
    | false =>
      have hst := Lib.hid (checkS_not (s := s) hck.symm hb)
      replace hck := Lib.hid hck.symm
      replace hb := Lib.hid hb
      go_enter Try.func29, Try.ntmps29
      go_wp2_with fail
      rw [← hW0]
      replace hW0 := Lib.hid hW0
      go_wp2_with (first | (go_at_call 26; refine hca.out.mono ?_; rintro e w1 ⟨rfl, hb1⟩; obtain ⟨r1, s1⟩ := bcell hb1) | (go_at_call 63; refine (stored_any A c pl dry s _ hlen (h.below (hF0.out.later hb1).below) (hs.below (hF0.out.later hb1).below) hu hw hh).mono ?_; rintro e w2 ⟨rfl, hb2⟩; rw [hb.out]))
      go_ret
      exact ⟨by rw [hst.out]; rfl, ((hF0.out.later hb1).later hb2).below⟩
    | true =>
      have hst := Lib.hid (checkS_ok (s := s) hck.symm hb)
      replace hck := Lib.hid hck.symm
      replace hb := Lib.hid hb
      go_enter Try.func29, Try.ntmps29
      go_wp2_with fail
      rw [← hW0]
      replace hW0 := Lib.hid hW0
      go_wp2_with (first | (go_at_call 26; refine hca.out.mono ?_; rintro e w1 ⟨rfl, hb1⟩; obtain ⟨r1, s1⟩ := bcell hb1) | (go_at_call 63; refine (stored_any A c pl dry s _ hlen (h.below (hF0.out.later hb1).below) (hs.below (hF0.out.later hb1).below) hu hw hh).mono ?_; rintro e w2 ⟨rfl, hb2⟩; rw [hb.out]))
      go_ret
      exact ⟨by rw [hst.out]; rfl, ((hF0.out.later hb1).later hb2).below⟩
  · have hcb : (ck == 0) = false := by simpa using hc0
    have hst : Hid (checkS pl dry s = ck) := by unfold Hid; rw [hck]; exact checkS_bad (hck ▸ hc0)
    replace hck := Lib.hid hck
    clear hc0
    go_enter Try.func29, Try.ntmps29
    go_wp2_with fail
    rw [← hW0]
    replace hW0 := Lib.hid hW0
    go_wp2_with (go_at_call 26; refine hca.out.mono ?_; rintro e w1 ⟨rfl, hb1⟩)
    go_ret
    exact ⟨by rw [hst.out]; rfl, (hF0.out.later hb1).below⟩
end Go.Proofs.Ytpgkhlpepckfgaa
