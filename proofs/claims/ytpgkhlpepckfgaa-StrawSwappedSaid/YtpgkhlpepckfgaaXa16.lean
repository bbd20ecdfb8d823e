/-
  Whether a heap may be, but for its name: straw.heaped, walked.
-/
import Derived.Test.YtpgkhlpepckfgaaXa11
import Derived.Test.YtpgkhlpepckfgaaXa15
import Derived.Deep.RegionHeld3
import Derived.Outline
set_option linter.all false
set_option linter.unusedVariables false
set_option linter.unusedSimpArgs false
namespace Go.Proofs.Ytpgkhlpepckfgaa
open Go.RowKit Go.Lib

theorem makeFunc_run (fn : Fn) (first cap : Array Value) (w : World) : (Instr.makeFunc fn first cap).run Try.prog w = .ok (.func fn first cap) w := rfl

/-- Is a part of a field of another crop? -/
def otherB (pl : List Plot) (crop : Int) (p : Portion) : Bool := decide ((heapB.plotAt' pl p.plot).crop ≠ crop)

set_option maxHeartbeats 1000000 in
set_option maxRecDepth 100000 in
/-- The closure that heaped hands on. -/
theorem other_any (A : Option Addr) (c : Nat) (pl : List Plot) (dry : Int) (H : Heap) (p : Portion) (w : World) (b1 b2 : Nat) (h : RdPlots w A pl) (h1 : w.heap[b1]? = some (.cells #[.slice A pl.length c, .int .i64 dry] 24 (0, 0))) (h2 : w.heap[b2]? = some (.cells (hcells H) 77 (0, 0)))
    (hp : 0 ≤ p.plot ∧ p.plot < (pl.length : Int)) :
    Calls Try.prog 86 #[.agg #[.int .i64 p.plot, .int .i64 p.loads], ptr b1, ptr b2] w fun e w' => e = .returned (.bool (otherB pl H.crop p)) ∧ Below w.heap.size w w' := by
  have hl := h.1.1
  have z1 : b1 < w.heap.size := by rcases Nat.lt_or_ge b1 w.heap.size with h | h; exact h; rw [Array.getElem?_eq_none h] at h1; cases h1
  have z2 : b2 < w.heap.size := by rcases Nat.lt_or_ge b2 w.heap.size with h | h; exact h; rw [Array.getElem?_eq_none h] at h2; cases h2
  have y1 := cell_of_two h1
  obtain ⟨_, k1, _⟩ := seven_cells h2
  obtain ⟨m, hm⟩ : ∃ m : Nat, p.plot = (m : Int) := ⟨p.plot.toNat, by omega⟩
  obtain ⟨ll, hll⟩ : ∃ ll, ll = p.loads := ⟨_, rfl⟩
  have hml : m < pl.length := by omega
  obtain ⟨af, hAf, f0, f1, _⟩ := h.1.at9 hml rfl
  obtain ⟨cr, hcr⟩ : ∃ cr, cr = pl[m].crop := ⟨_, rfl⟩
  have hres : otherB pl H.crop p = (cr != H.crop) := by unfold otherB heapB.plotAt'; rw [hm, Int.toNat_natCast, getD_lt _ hml, ← hcr]; rw [Bool.eq_iff_iff]; simp
  rw [← hcr] at f1
  rw [hm, ← hll, hres]
  rw [hAf] at y1
  have fb := World.block_lt_of_cell? w _ f1
  simp only at fb
  clear hll hcr hm h1 h2 h hAf hres hp f0
  go_enter Try.func86, Try.ntmps86
  go_wp2
  go_quiet (fail)
  go_wp2
  go_ret
  exact ⟨rfl, (((Below.refl _ w).alloc (Nat.le_refl _) _).trans (below_drewN_ _ _))⟩

/-- The first part of which q holds; -1: there is none. -/
def idxP (q : Portion → Bool) (l : List Portion) : Int := if l.any q then l.findIdx q else -1
theorem idxP_end {q : Portion → Bool} {l : List Portion} (h : ∀ j (hj : j < l.length), q l[j] = false) : idxP q l = -1 := by
  have : l.any q = false := by
    refine Bool.eq_false_iff.2 fun e => ?_
    obtain ⟨x, hx, hq⟩ := List.any_eq_true.1 e
    obtain ⟨j, hj, rfl⟩ := List.mem_iff_getElem.1 hx
    rw [h j hj] at hq; cases hq
  unfold idxP; rw [this]; rfl
theorem idxP_stop {q : Portion → Bool} {l : List Portion} {k : Nat} (hk : k < l.length) (h : ∀ j (hj : j < l.length), j < k → q l[j] = false) (hq : q l[k] = true) : idxP q l = k := by
  have e1 : l.any q = true := List.any_eq_true.2 ⟨l[k], List.getElem_mem hk, hq⟩
  unfold idxP
  rw [e1, if_pos rfl]
  have : l.findIdx q = k := (List.findIdx_eq hk).2 ⟨hq, fun j hj => by rw [h j (by omega) hj]⟩
  rw [this]

set_option maxHeartbeats 1000000 in
set_option maxRecDepth 100000 in
theorem indexP_any (A B : Option Addr) (c cb : Nat) (pl : List Plot) (dry : Int) (H : Heap) (l : List Portion) (w : World) (b1 b2 : Nat) (h : RdPlots w A pl) (h1 : w.heap[b1]? = some (.cells #[.slice A pl.length c, .int .i64 dry] 24 (0, 0))) (h2 : w.heap[b2]? = some (.cells (hcells H) 77 (0, 0)))
    (hb : RdParts w B l) (hp : ∀ p ∈ l, 0 ≤ p.plot ∧ p.plot < (pl.length : Int)) :
    Calls Try.prog 119 #[.slice B l.length cb, .func (.func 86) #[] #[ptr b1, ptr b2]] w fun e w' => e = .returned (.int .i64 (idxP (otherB pl H.crop) l)) ∧ Below w.heap.size w w' := by
  have hl := hb.1
  have h1 := Lib.hid h1
  have h2 := Lib.hid h2
  have z1 : Hid (b1 < w.heap.size) := by unfold Hid; rcases Nat.lt_or_ge b1 w.heap.size with h | h; exact h; have := h1.out; rw [Array.getElem?_eq_none h] at this; cases this
  have z2 : Hid (b2 < w.heap.size) := by unfold Hid; rcases Nat.lt_or_ge b2 w.heap.size with h | h; exact h; have := h2.out; rw [Array.getElem?_eq_none h] at this; cases this
  go_enter Try.func119, Try.ntmps119
  go_wp2
  go_loopw [8] (fun i wr => ∃ k : Nat, i = .int .i64 k ∧ k ≤ l.length ∧ Hid (∀ j (hj : j < l.length), j < k → otherB pl H.crop l[j] = false) ∧ Hid (Below w.heap.size w wr)) (fun i _ => l.length - (intOf i).toNat)
  case atStart => exact ⟨0, rfl, by omega, (fun j _ hj => absurd hj (Nat.not_lt_zero _)), Below.refl _ _⟩
  case round =>
    obtain ⟨k, rfl, hk, hall, hB⟩ := hrel
    by_cases hlt : k < l.length
    · obtain ⟨ad, hA, p0, p1⟩ := FlatRow.at2 (FlatRow.below hb hB.out) hlt rfl
      subst hA
      have hpk := Lib.hid (hp _ (List.getElem_mem hlt))
      cases q : otherB pl H.crop l[k] with
      | true =>
        have q := Lib.hid q
        go_wp2_with (go_at_call 86; refine (other_any A c pl dry H l[k] _ b1 b2 (h.below hB.out) ((hB.out.block _ z1.out).trans h1.out) ((hB.out.block _ z2.out).trans h2.out) hpk.out).mono ?_; rintro e w1 ⟨rfl, hb1⟩; rw [q.out])
        go_ret
        exact ⟨by rw [idxP_stop hlt hall.out q.out]; rfl, hB.out.trans (hb1.mono hB.out.size)⟩
      | false =>
        have q := Lib.hid q
        go_wp2_with (go_at_call 86; refine (other_any A c pl dry H l[k] _ b1 b2 (h.below hB.out) ((hB.out.block _ z1.out).trans h1.out) ((hB.out.block _ z2.out).trans h2.out) hpk.out).mono ?_; rintro e w1 ⟨rfl, hb1⟩; rw [q.out])
        refine ⟨⟨k + 1, by go_num, by omega, (fun j hj hjk => ?_), hB.out.trans (hb1.mono hB.out.size)⟩, by simp only [intOf]; omega⟩
        rcases Nat.lt_succ_iff_lt_or_eq.1 hjk with h | rfl
        · exact hall.out j hj h
        · exact q.out
    · go_wp2
      go_ret
      exact ⟨by rw [idxP_end (fun j hj => hall.out j hj (by omega))]; rfl, hB.out⟩

theorem containsP_any (A B : Option Addr) (c cb : Nat) (pl : List Plot) (dry : Int) (H : Heap) (l : List Portion) (w : World) (b1 b2 : Nat) (h : RdPlots w A pl) (h1 : w.heap[b1]? = some (.cells #[.slice A pl.length c, .int .i64 dry] 24 (0, 0))) (h2 : w.heap[b2]? = some (.cells (hcells H) 77 (0, 0)))
    (hb : RdParts w B l) (hp : ∀ p ∈ l, 0 ≤ p.plot ∧ p.plot < (pl.length : Int)) :
    Calls Try.prog 85 #[.slice B l.length cb, .func (.func 86) #[] #[ptr b1, ptr b2]] w fun e w' => e = .returned (.bool (l.any (otherB pl H.crop))) ∧ Below w.heap.size w w' := by
  obtain ⟨i, hi⟩ : ∃ i, i = idxP (otherB pl H.crop) l := ⟨_, rfl⟩
  have hlast : decide (0 ≤ i) = l.any (otherB pl H.crop) := by
    rw [hi]; unfold idxP
    cases l.any (otherB pl H.crop) <;> simp
  have hc := indexP_any A B c cb pl dry H l w b1 b2 h h1 h2 hb hp
  rw [← hi] at hc
  rw [← hlast]
  clear hi hlast h1 h2
  have hc := Lib.hid hc
  go_enter Try.func85, Try.ntmps85
  go_wp2_with (go_at_call 119; refine hc.out.mono ?_; rintro e w1 ⟨rfl, hb1⟩)
  go_ret
  exact ⟨rfl, hb1⟩

structure HeldS (b : Nat) (W0 : World) (H : Heap) (w' : World) : Prop where
  per : w'.cell? ⟨b + 1, 4, none⟩ = some (.int .i64 H.per)
  parts : w'.cell? ⟨b + 1, 3, none⟩ = some (.slice H.pa H.parts.length H.pc)
  below : Below W0.heap.size W0 w'
  size : b + 1 < w'.heap.size
theorem HeldS.later {b : Nat} {W0 : World} {H : Heap} {w w' : World} (h : HeldS b W0 H w) (hb : Below w.heap.size w w') : HeldS b W0 H w' :=
  ⟨(hb.cell (p := ⟨b + 1, 4, none⟩) h.size).trans h.per, (hb.cell (p := ⟨b + 1, 3, none⟩) h.size).trans h.parts, h.below.trans (hb.mono h.below.size), Nat.lt_of_lt_of_le h.size hb.size⟩
theorem HeldS.three {b : Nat} {W0 : World} {H : Heap} {w' : World} (h : HeldS b W0 H w') : w'.cell? ⟨b + 1, 4, none⟩ = some (.int .i64 H.per) ∧ w'.cell? ⟨b + 1, 3, none⟩ = some (.slice H.pa H.parts.length H.pc) ∧ HeldS b W0 H w' := ⟨h.per, h.parts, h⟩

set_option maxHeartbeats 2000000 in
set_option maxRecDepth 100000 in
theorem heaped_any (A : Option Addr) (c : Nat) (pl : List Plot) (dry : Int) (H : Heap) (w : World) (h : RdPlots w A pl) (hp : RdParts w H.pa H.parts) (hnm : H.name.size ≤ 140737488351232) (hlen : H.parts.length ≤ 1000000) :
    Calls Try.prog 62 #[.agg #[.slice A pl.length c, .int .i64 dry], .agg (hcells H)] w fun e w' => e = .returned (.bool (heapB pl H)) ∧ Below w.heap.size w w' := by
  have hl1 := h.1.1
  have hlp := hp.1
  have hnm' : H.name.size ≤ 9223372036854775807 := Nat.le_trans hnm (by decide)
  obtain ⟨W0, hW0⟩ : ∃ W0, W0 = (w.alloc (.cells #[.slice A pl.length c, .int .i64 dry] 24)).alloc (.cells (hcells H) 77) := ⟨_, rfl⟩
  have hb0 : Hid (Below w.heap.size w W0) := by rw [hW0]; exact ((Below.refl _ w).alloc (Nat.le_refl _) _).alloc (by simp) _
  have g1 : Hid (W0.heap[w.heap.size]? = some (.cells #[.slice A pl.length c, .int .i64 dry] 24 (0, 0))) := by rw [hW0]; exact heap_old _ _ _ _ (heap_new _ _ _ rfl)
  have g2 : Hid (W0.heap[w.heap.size + 1]? = some (.cells (hcells H) 77 (0, 0))) := by rw [hW0]; exact heap_new _ _ _ (by simp)
  have hz : W0.heap.size = w.heap.size + 2 := by rw [hW0]; simp
  have hz0 : w.heap.size < W0.heap.size := by omega
  have hz1 : w.heap.size + 1 < W0.heap.size := by omega
  have hq : heapB pl H = (heapHead pl H && cropsB pl H && heapTail H) := rfl
  replace hq := Lib.hid hq
  replace hz := Lib.hid hz
  have d1 := cell_of_two g1.out
  have d2 : W0.cell? ⟨w.heap.size, 1, none⟩ = some (.int .i64 dry) := by simp [World.cell?, g1.out]
  obtain ⟨k0, k1, k2, k3, k4, k5, k6⟩ := seven_cells g2.out
  cases q : heapHead pl H with
  | false =>
    have q := Lib.hid q
    go_enter Try.func62, Try.ntmps62
    go_wp2_with fail
    rw [← hW0]
    replace hW0 := Lib.hid hW0
    go_wp2_with (first | (go_at_call 53; refine (isName_any _ _ hnm').mono ?_; rintro e w1 ⟨rfl, hb1⟩; obtain ⟨r1, s1⟩ := bcell hb1; have y0 := Nat.lt_of_lt_of_le hz0 hb1.size; have y1 := Nat.lt_of_lt_of_le hz1 hb1.size) | (go_at_call 54; refine (grows_any _ _).mono ?_; rintro e w' ⟨rfl, rfl⟩) | (go_at_call 43; refine (in_any _ _ _ _).mono ?_; rintro e w' ⟨rfl, rfl⟩) | (go_at_call 60; refine (proper_any _ _ _ _ pl dry H.parts _ (h.below (hb0.out.trans (hb1.mono hb0.out.size))) (hp.below (hb0.out.trans (hb1.mono hb0.out.size)))).mono ?_; rintro e w2 ⟨rfl, hb2⟩; obtain ⟨r2, s2⟩ := bcell hb2) | (go_at_call 55; refine (spans_any _ _ _ _ _).mono ?_; rintro e w3 ⟨rfl, hb3⟩))
    all_goals first
      | (exfalso; have q := q.out; simp_all [heapHead]; done)
      | (go_ret; refine ⟨by rw [hq.out, q.out]; rfl, ?_⟩; first | exact hb0.out | exact hb0.out.trans (hb1.mono hb0.out.size) | exact hb0.out.trans ((hb1.trans (hb2.mono hb1.size)).mono hb0.out.size) | exact hb0.out.trans ((hb1.trans ((hb2.trans (hb3.mono hb2.size)).mono hb1.size)).mono hb0.out.size))
  | true =>
    have q' := q
    simp only [heapHead, Bool.and_eq_true] at q'
    obtain ⟨⟨⟨⟨⟨t1, t2⟩, t3⟩, t4⟩, t5⟩, t6⟩ := q'
    have t7 : ((H.parts.length : Int) == 0) = false := by
      simp only [decide_eq_true_eq] at t4
      exact beq_eq_false_iff_ne.2 (by omega)
    have t4 := Lib.hid t4
    have q := Lib.hid q
    have hin : Hid (∀ p ∈ H.parts, 0 ≤ p.plot ∧ p.plot < (pl.length : Int)) := fun p hp => by
      obtain ⟨y, hy, rfl⟩ := List.mem_iff_getElem.1 hp
      have hpy := allB_get t5 hy
      rw [partAt_get hy] at hpy
      simp only [Bool.and_eq_true, inB, decide_eq_true_eq] at hpy
      omega
    have hmild : Hid (Mild H.parts) := ⟨hlen, fun p hp => by
      obtain ⟨y, hy, rfl⟩ := List.mem_iff_getElem.1 hp
      have hpy := allB_get t5 hy
      rw [partAt_get hy] at hpy
      simp only [Bool.and_eq_true, inB, decide_eq_true_eq] at hpy
      omega⟩
    obtain ⟨sm1, sm2⟩ := hmild.out.sum
    have hcr0 : H.parts.any (otherB pl H.crop) = !cropsB pl H := by
      unfold cropsB otherB
      rw [List.not_all_eq_any_not]
      congr 1; funext p; simp
    have hmf := makeFunc_run
    cases qc : cropsB pl H with
    | false =>
      rw [qc] at hcr0
      have hcr : Hid (H.parts.any (otherB pl H.crop) = true) := hcr0
      have qc := Lib.hid qc
      clear hcr0
      go_enter Try.func62, Try.ntmps62
      go_wp2_with fail
      rw [← hW0]
      replace hW0 := Lib.hid hW0
      go_wp2_with (first | (go_at_call 53; refine (isName_any _ _ hnm').mono ?_; rintro e w1 ⟨rfl, hb1⟩; obtain ⟨r1, s1⟩ := bcell hb1; have y0 := Nat.lt_of_lt_of_le hz0 hb1.size; have y1 := Nat.lt_of_lt_of_le hz1 hb1.size) | (go_at_call 54; refine (grows_any _ _).mono ?_; rintro e w' ⟨rfl, rfl⟩) | (go_at_call 43; refine (in_any _ _ _ _).mono ?_; rintro e w' ⟨rfl, rfl⟩) | (go_at_call 60; refine (proper_any _ _ _ _ pl dry H.parts _ (h.below (hb0.out.trans (hb1.mono hb0.out.size))) (hp.below (hb0.out.trans (hb1.mono hb0.out.size)))).mono ?_; rintro e w2 ⟨rfl, hb2⟩; obtain ⟨r2, s2⟩ := bcell hb2; have y2 := Nat.lt_of_lt_of_le y0 hb2.size; have y3 := Nat.lt_of_lt_of_le y1 hb2.size) | (go_at_call 55; refine (spans_any _ _ _ _ _).mono ?_; rintro e w3 ⟨rfl, hb3⟩; obtain ⟨r3, s3⟩ := bcell hb3; have hB3 := (hb1.trans ((hb2.trans (hb3.mono hb2.size)).mono hb1.size)); have y4 := Nat.lt_of_lt_of_le y2 hb3.size; have y5 := Nat.lt_of_lt_of_le y3 hb3.size) | (go_at_call 85; refine (containsP_any A _ c _ pl dry H H.parts _ _ _ (h.below (hb0.out.trans (hB3.mono hb0.out.size))) ((hB3.block _ hz0).trans g1.out) ((hB3.block _ hz1).trans g2.out) (hp.below (hb0.out.trans (hB3.mono hb0.out.size))) hin.out).mono ?_; rintro e w4 ⟨rfl, hb4⟩; rw [hcr.out]; obtain ⟨r4, s4⟩ := bcell hb4; have hB4 := hB3.trans (hb4.mono hB3.size); have y6 := Nat.lt_of_lt_of_le y4 hb4.size; have y7 := Nat.lt_of_lt_of_le y5 hb4.size))
      go_ret
      exact ⟨by rw [hq.out, q.out, qc.out]; rfl, hb0.out.trans (hB4.mono hb0.out.size)⟩
    | true =>
      rw [qc] at hcr0
      have hcr : Hid (H.parts.any (otherB pl H.crop) = false) := hcr0
      have qc := Lib.hid qc
      clear hcr0
      by_cases hst : H.stage = 3
      · have hsb : (H.stage == 3) = true := by simpa using hst
        replace hst := Lib.hid hst
        go_enter Try.func62, Try.ntmps62
        go_wp2_with fail
        rw [← hW0]
        replace hW0 := Lib.hid hW0
        go_wp2_with (first | (go_at_call 53; refine (isName_any _ _ hnm').mono ?_; rintro e w1 ⟨rfl, hb1⟩; obtain ⟨r1, s1⟩ := bcell hb1; have y0 := Nat.lt_of_lt_of_le hz0 hb1.size; have y1 := Nat.lt_of_lt_of_le hz1 hb1.size) | (go_at_call 54; refine (grows_any _ _).mono ?_; rintro e w' ⟨rfl, rfl⟩) | (go_at_call 43; refine (in_any _ _ _ _).mono ?_; rintro e w' ⟨rfl, rfl⟩) | (go_at_call 60; refine (proper_any _ _ _ _ pl dry H.parts _ (h.below (hb0.out.trans (hb1.mono hb0.out.size))) (hp.below (hb0.out.trans (hb1.mono hb0.out.size)))).mono ?_; rintro e w2 ⟨rfl, hb2⟩; obtain ⟨r2, s2⟩ := bcell hb2; have y2 := Nat.lt_of_lt_of_le y0 hb2.size; have y3 := Nat.lt_of_lt_of_le y1 hb2.size) | (go_at_call 55; refine (spans_any _ _ _ _ _).mono ?_; rintro e w3 ⟨rfl, hb3⟩; obtain ⟨r3, s3⟩ := bcell hb3; have hB3 := (hb1.trans ((hb2.trans (hb3.mono hb2.size)).mono hb1.size)); have y4 := Nat.lt_of_lt_of_le y2 hb3.size; have y5 := Nat.lt_of_lt_of_le y3 hb3.size) | (go_at_call 85; refine (containsP_any A _ c _ pl dry H H.parts _ _ _ (h.below (hb0.out.trans (hB3.mono hb0.out.size))) ((hB3.block _ hz0).trans g1.out) ((hB3.block _ hz1).trans g2.out) (hp.below (hb0.out.trans (hB3.mono hb0.out.size))) hin.out).mono ?_; rintro e w4 ⟨rfl, hb4⟩; rw [hcr.out]; obtain ⟨r4, s4⟩ := bcell hb4; have hB4 := hB3.trans (hb4.mono hB3.size); have y6 := Nat.lt_of_lt_of_le y4 hb4.size; have y7 := Nat.lt_of_lt_of_le y5 hb4.size))
        cases hper : inB H.per 1 100 with
        | false =>
          have hq1 : ∀ n, Calls Try.prog 43 #[.int .i64 H.per, .int .i64 1, .int .i64 100] (w4.drewN n) fun e w' => e = .returned (.bool false) ∧ w' = w4.drewN n := fun n => (in_any _ _ _ _).mono fun _ _ ⟨a, b⟩ => ⟨by rw [a, hper], b.symm⟩
          have hper := Lib.hid hper
          go_big_quiet ((go_at_call 43; exact Calls.quiet_of_same (hq1 _)))
          go_wp2
          go_ret
          exact ⟨by rw [hq.out, q.out, qc.out, heapTail, if_pos hst.out, hper.out]; rfl, hb0.out.trans ((hB4.trans (below_drewN_ w4 nq)).mono hb0.out.size)⟩
        | true =>
          have hper2 : 1 ≤ H.per ∧ H.per ≤ 100 := by simpa [inB] using hper
          obtain ⟨hp1, hp2⟩ := hper2
          have hp0 : H.per ≠ 0 := by omega
          have S0 : HeldS w.heap.size W0 H w4.drew := ⟨by go_simp, by go_simp, hB4.drew, y7⟩
          go_region_held3 (fun w' => w'.cell? ⟨w.heap.size + 1, 4, none⟩ = some (.int .i64 H.per) ∧ w'.cell? ⟨w.heap.size + 1, 3, none⟩ = some (.slice H.pa H.parts.length H.pc) ∧ HeldS w.heap.size W0 H w') (first | assumption | exact S0.three | (exact (HeldS.later (by assumption) (by assumption)).three) | (exact HeldS.three (by assumption))) (first | (go_at_call 43; refine (in_any _ _ _ _).mono ?_; rintro e w' ⟨rfl, rfl⟩) | (go_at_call 68; refine (sum_any _ _ H.parts _ (hp.below (hb0.out.trans (Below.mono (HeldS.below (by assumption)) hb0.out.size))) hmild.out).mono ?_; rintro e w5 ⟨rfl, hb5⟩))
          have hS5 : HeldS w.heap.size W0 H w5 := by first | assumption | exact HeldS.later (by assumption) hb5
          have hfin := hb0.out.trans (hS5.below.mono hb0.out.size)
          go_wp2
          go_ret
          refine ⟨?_, hfin⟩
          rw [hq.out, q.out, qc.out, heapTail, if_pos hst.out, hper, Int.tmod_eq_emod_of_nonneg sm1]
          exact ret_bool (by rw [Bool.true_and, Bool.true_and, Bool.true_and]; rfl)
      · have hsb : (H.stage == 3) = false := by simpa using hst
        replace hst := Lib.hid hst
        go_enter Try.func62, Try.ntmps62
        go_wp2_with fail
        rw [← hW0]
        replace hW0 := Lib.hid hW0
        go_wp2_with (first | (go_at_call 53; refine (isName_any _ _ hnm').mono ?_; rintro e w1 ⟨rfl, hb1⟩; obtain ⟨r1, s1⟩ := bcell hb1; have y0 := Nat.lt_of_lt_of_le hz0 hb1.size; have y1 := Nat.lt_of_lt_of_le hz1 hb1.size) | (go_at_call 54; refine (grows_any _ _).mono ?_; rintro e w' ⟨rfl, rfl⟩) | (go_at_call 43; refine (in_any _ _ _ _).mono ?_; rintro e w' ⟨rfl, rfl⟩) | (go_at_call 60; refine (proper_any _ _ _ _ pl dry H.parts _ (h.below (hb0.out.trans (hb1.mono hb0.out.size))) (hp.below (hb0.out.trans (hb1.mono hb0.out.size)))).mono ?_; rintro e w2 ⟨rfl, hb2⟩; obtain ⟨r2, s2⟩ := bcell hb2; have y2 := Nat.lt_of_lt_of_le y0 hb2.size; have y3 := Nat.lt_of_lt_of_le y1 hb2.size) | (go_at_call 55; refine (spans_any _ _ _ _ _).mono ?_; rintro e w3 ⟨rfl, hb3⟩; obtain ⟨r3, s3⟩ := bcell hb3; have hB3 := (hb1.trans ((hb2.trans (hb3.mono hb2.size)).mono hb1.size)); have y4 := Nat.lt_of_lt_of_le y2 hb3.size; have y5 := Nat.lt_of_lt_of_le y3 hb3.size) | (go_at_call 85; refine (containsP_any A _ c _ pl dry H H.parts _ _ _ (h.below (hb0.out.trans (hB3.mono hb0.out.size))) ((hB3.block _ hz0).trans g1.out) ((hB3.block _ hz1).trans g2.out) (hp.below (hb0.out.trans (hB3.mono hb0.out.size))) hin.out).mono ?_; rintro e w4 ⟨rfl, hb4⟩; rw [hcr.out]; obtain ⟨r4, s4⟩ := bcell hb4; have hB4 := hB3.trans (hb4.mono hB3.size); have y6 := Nat.lt_of_lt_of_le y4 hb4.size; have y7 := Nat.lt_of_lt_of_le y5 hb4.size))
        go_ret
        refine ⟨?_, hb0.out.trans (hB4.mono hb0.out.size)⟩
        rw [hq.out, q.out, qc.out, heapTail, if_neg hst.out]
        exact ret_bool (by rw [Bool.true_and, Bool.true_and]; rfl)
end Go.Proofs.Ytpgkhlpepckfgaa
