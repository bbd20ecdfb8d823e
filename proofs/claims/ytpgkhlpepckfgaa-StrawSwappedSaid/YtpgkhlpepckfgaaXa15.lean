/-
  Whether a heap of a store may be, as the specification has it: walked. Stores that hold the same are the same: SameStore, walked.
-/
import Derived.Test.YtpgkhlpepckfgaaXa10
import Derived.Test.YtpgkhlpepckfgaaXa11
import Derived.Test.YtpgkhlpepckfgaaXa14
import Derived.BigRegion
set_option linter.all false
set_option linter.unusedVariables false
set_option linter.unusedSimpArgs false
section
namespace Go.Proofs.Ytpgkhlpepckfgaa
open Go.RowKit Go.Lib

theorem seven_cells {w : World} {b : Nat} {v0 v1 v2 v3 v4 v5 v6 : Value} {t : TypeId} (h : w.heap[b]? = some (.cells #[v0, v1, v2, v3, v4, v5, v6] t (0, 0))) : w.cell? ⟨b, 0, none⟩ = some v0 ∧ w.cell? ⟨b, 1, none⟩ = some v1 ∧ w.cell? ⟨b, 2, none⟩ = some v2 ∧ w.cell? ⟨b, 3, none⟩ = some v3 ∧ w.cell? ⟨b, 4, none⟩ = some v4 ∧ w.cell? ⟨b, 5, none⟩ = some v5 ∧ w.cell? ⟨b, 6, none⟩ = some v6 := by
  refine ⟨?_, ?_, ?_, ?_, ?_, ?_, ?_⟩ <;> simp [World.cell?, h]
abbrev hcells (h : Heap) : Array Value := #[.string h.name, .int .i64 h.crop, .int .i64 h.stage, .slice h.pa h.parts.length h.pc, .int .i64 h.per, .int .i64 h.wet.lo, .int .i64 h.wet.hi]

/-- The first tests of a heap. -/
def heapHead (pl : List Plot) (h : Heap) : Bool := nameB h.name && cropB h.crop && inB h.stage 1 3 && decide (h.parts.length ≠ 0) && properB pl.length h.parts && spanB h.wet.lo h.wet.hi 0 1000
def heapTail (h : Heap) : Bool := if h.stage = 3 then inB h.per 1 100 && decide (sumL h.parts % h.per = 0) else decide (h.per = 0)
def cropsB (pl : List Plot) (h : Heap) : Bool := h.parts.all (fun p => decide ((heapB.plotAt' pl p.plot).crop = h.crop))
theorem heapNew_stop {l : List Heap} {i j : Nat} (h : j < i) (he : (l.getD j default).name = (l.getD i default).name) : j < l.length → heapNew l i = false := fun hj => by
  unfold heapNew
  refine Bool.eq_false_iff.2 fun e => ?_
  have := List.all_eq_true.1 e (l[j]) (List.mem_iff_getElem.2 ⟨j, by rw [List.length_take]; omega, by rw [List.getElem_take]⟩)
  rw [getD_lt _ hj] at he
  simp [he] at this
theorem heapNew_end {l : List Heap} {i : Nat} (h : ∀ x, x < i → (l.getD x default).name ≠ (l.getD i default).name) : heapNew l i = true := by
  unfold heapNew
  refine List.all_eq_true.2 fun y hy => ?_
  obtain ⟨x, hx, rfl⟩ := List.mem_iff_getElem.1 hy
  rw [List.length_take] at hx
  rw [List.getElem_take]
  have := h x (by omega)
  rw [getD_lt _ (show x < l.length by omega)] at this
  simpa using this
theorem crops_stop {pl : List Plot} {H : Heap} {x : Nat} (hx : x < H.parts.length) (h : (heapB.plotAt' pl (H.parts.getD x default).plot).crop ≠ H.crop) : cropsB pl H = false := by
  refine Bool.eq_false_iff.2 fun e => ?_
  have := List.all_eq_true.1 e _ (List.getElem_mem hx)
  rw [getD_lt _ hx] at h
  simp [h] at this
theorem crops_end {pl : List Plot} {H : Heap} (h : ∀ x, x < H.parts.length → (heapB.plotAt' pl (H.parts.getD x default).plot).crop = H.crop) : cropsB pl H = true := by
  refine List.all_eq_true.2 fun p hp => ?_
  obtain ⟨x, hx, rfl⟩ := List.mem_iff_getElem.1 hp
  have := h x hx
  rw [getD_lt _ hx] at this
  simpa using this
theorem heapB_eq (pl : List Plot) (h : Heap) : heapB pl h = (heapHead pl h && cropsB pl h && heapTail h) := rfl

set_option maxHeartbeats 4000000 in
set_option maxRecDepth 100000 in
theorem rheap_any (A : Option Addr) (c : Nat) (pl : List Plot) (dry : Int) (s : Store) (i : Nat) (w : World) (h : RdPlots w A pl) (hs : RdStore w s) (hi : i < s.heaps.length) (hlen : ∀ x ∈ s.heaps, x.parts.length ≤ 1000000) :
    Calls Try.prog 88 #[.agg #[.slice A pl.length c, .int .i64 dry], storeVal s, .int .i64 i] w fun e w' => e = .returned (.bool (heapAt pl s.heaps i)) ∧ Below w.heap.size w w' := by
  have hl1 := h.1.1
  have hl2 := hs.heaps.1.1
  obtain ⟨hpp, hnm⟩ := hs.heaps.2 _ (List.getElem_mem hi)
  have hlp := hpp.1
  have hpl := hlen _ (List.getElem_mem hi)
  have hnm' : s.heaps[i].name.size ≤ 9223372036854775807 := Nat.le_trans hnm (by decide)
  have hba : Below w.heap.size w (w.alloc (.cells #[.slice A pl.length c, .int .i64 dry] 24)) := (Below.refl _ w).alloc (Nat.le_refl _) _
  have hb0 : Below w.heap.size w ((w.alloc (.cells #[.slice A pl.length c, .int .i64 dry] 24)).alloc (.cells (storeCells s) 43)) := hba.alloc hba.size _
  obtain ⟨ad, hA, p0, p1, p2, p3, p4, p5, p6⟩ := (FlatRow.below hs.heaps.1 hb0).at7 hi rfl
  obtain ⟨H, hH⟩ : ∃ H, H = s.heaps[i] := ⟨_, rfl⟩
  have hres : heapAt pl s.heaps i = (heapNew s.heaps i && (heapHead pl H && cropsB pl H && heapTail H)) := by unfold heapAt; rw [getD_lt _ hi, heapB_eq, hH]
  rw [← hH] at hpp hnm hlp hpl hnm' p0 p1 p2 p3 p4 p5 p6
  replace hH := Lib.hid hH
  replace hres := Lib.hid hres
  have hhd : heapHead pl H = (nameB H.name && cropB H.crop && inB H.stage 1 3 && decide (H.parts.length ≠ 0) && properB pl.length H.parts && spanB H.wet.lo H.wet.hi 0 1000) := rfl
  replace hhd := Lib.hid hhd
  have hb0x : Hid (Below w.heap.size w (((w.alloc (.cells #[.slice A pl.length c, .int .i64 dry] 24)).alloc (.cells (storeCells s) 43)).alloc (.cells (hcells H) 77))) := hb0.alloc hb0.size _
  have hat : ∀ wx, Below (((w.alloc (.cells #[.slice A pl.length c, .int .i64 dry] 24)).alloc (.cells (storeCells s) 43)).alloc (.cells (hcells H) 77)).heap.size (((w.alloc (.cells #[.slice A pl.length c, .int .i64 dry] 24)).alloc (.cells (storeCells s) 43)).alloc (.cells (hcells H) 77)) wx → wx.heap[w.heap.size + 1 + 1]? = some (.cells (hcells H) 77 (0, 0)) := fun wx hx => (hx.block _ (by simp)).trans (heap_new _ _ _ (by simp))
  replace hat := Lib.hid hat
  have hat2 : Hid (∀ wx, Below (((w.alloc (.cells #[.slice A pl.length c, .int .i64 dry] 24)).alloc (.cells (storeCells s) 43)).alloc (.cells (hcells H) 77)).heap.size (((w.alloc (.cells #[.slice A pl.length c, .int .i64 dry] 24)).alloc (.cells (storeCells s) 43)).alloc (.cells (hcells H) 77)) wx → wx.heap[w.heap.size + 1]? = some (.cells (storeCells s) 43 (0, 0))) := fun wx hx => (hx.block _ (by simp)).trans (heap_old _ _ _ _ (heap_new _ _ _ (by simp)))
  have hat3 : Hid (∀ wx, Below (((w.alloc (.cells #[.slice A pl.length c, .int .i64 dry] 24)).alloc (.cells (storeCells s) 43)).alloc (.cells (hcells H) 77)).heap.size (((w.alloc (.cells #[.slice A pl.length c, .int .i64 dry] 24)).alloc (.cells (storeCells s) 43)).alloc (.cells (hcells H) 77)) wx → wx.heap[w.heap.size]? = some (.cells #[.slice A pl.length c, .int .i64 dry] 24 (0, 0))) := fun wx hx => (hx.block _ (by simp; omega)).trans (heap_old _ _ _ _ (heap_old _ _ _ _ (heap_new _ _ _ rfl)))
  have hfin : Hid (∀ wx, Below (((w.alloc (.cells #[.slice A pl.length c, .int .i64 dry] 24)).alloc (.cells (storeCells s) 43)).alloc (.cells (hcells H) 77)).heap.size (((w.alloc (.cells #[.slice A pl.length c, .int .i64 dry] 24)).alloc (.cells (storeCells s) 43)).alloc (.cells (hcells H) 77)) wx → Below w.heap.size w wx) := fun wx hx => hb0x.out.trans (hx.mono hb0x.out.size)
  replace hb0 := Lib.hid hb0
  replace hba := Lib.hid hba
  have hlo : Hid (s.ha = some ad) := hA
  cases c1 : nameB H.name with
  | false =>
    go_enter Try.func88, Try.ntmps88
    go_wp2_with (first | (go_at_call 56; refine (rName_any _ _ hnm').mono ?_; rintro e w' ⟨rfl, rfl⟩) | (go_at_call 57; refine (rcrop_any _ _).mono ?_; rintro e w' ⟨rfl, rfl⟩) | (go_at_call 87; refine (ordered_any _ _ _ _ pl dry H.parts _ (h.below hb0x.out) (hpp.below hb0x.out)).mono ?_; rintro e w1 ⟨rfl, hb1⟩; have g1 := hat.out _ hb1; obtain ⟨_, _, _, _, _, k5, k6⟩ := seven_cells g1) | (go_at_call 58; refine (rspan_any _ _ _ _ _).mono ?_; rintro e w2 ⟨rfl, hb2⟩))
    refine bodyPost_ret (v := .bool false) (by simp [results, Try.results88, go_sem]) rfl ⟨by rw [hres.out, hhd.out, c1]; simp, hb0x.out⟩
  | true =>
    cases c2 : cropB H.crop with
    | false =>
      go_enter Try.func88, Try.ntmps88
      go_wp2_with (first | (go_at_call 56; refine (rName_any _ _ hnm').mono ?_; rintro e w' ⟨rfl, rfl⟩) | (go_at_call 57; refine (rcrop_any _ _).mono ?_; rintro e w' ⟨rfl, rfl⟩) | (go_at_call 87; refine (ordered_any _ _ _ _ pl dry H.parts _ (h.below hb0x.out) (hpp.below hb0x.out)).mono ?_; rintro e w1 ⟨rfl, hb1⟩; have g1 := hat.out _ hb1; obtain ⟨_, _, _, _, _, k5, k6⟩ := seven_cells g1) | (go_at_call 58; refine (rspan_any _ _ _ _ _).mono ?_; rintro e w2 ⟨rfl, hb2⟩))
      refine bodyPost_ret (v := .bool false) (by simp [results, Try.results88, go_sem]) rfl ⟨by rw [hres.out, hhd.out, c2]; simp, hb0x.out⟩
    | true =>
      cases c3 : inB H.stage 1 3 with
      | false =>
        have c3' : H.stage < 1 ∨ 3 < H.stage := by
          simp only [inB, Bool.and_eq_false_iff, decide_eq_false_iff_not] at c3; omega
        rcases c3' with c3' | c3'
        · go_enter Try.func88, Try.ntmps88
          go_wp2_with (first | (go_at_call 56; refine (rName_any _ _ hnm').mono ?_; rintro e w' ⟨rfl, rfl⟩) | (go_at_call 57; refine (rcrop_any _ _).mono ?_; rintro e w' ⟨rfl, rfl⟩) | (go_at_call 87; refine (ordered_any _ _ _ _ pl dry H.parts _ (h.below hb0x.out) (hpp.below hb0x.out)).mono ?_; rintro e w1 ⟨rfl, hb1⟩; have g1 := hat.out _ hb1; obtain ⟨_, _, _, _, _, k5, k6⟩ := seven_cells g1) | (go_at_call 58; refine (rspan_any _ _ _ _ _).mono ?_; rintro e w2 ⟨rfl, hb2⟩))
          refine bodyPost_ret (v := .bool false) (by simp [results, Try.results88, go_sem]) rfl ⟨by rw [hres.out, hhd.out, c3]; simp, hb0x.out⟩
        · go_enter Try.func88, Try.ntmps88
          go_wp2_with (first | (go_at_call 56; refine (rName_any _ _ hnm').mono ?_; rintro e w' ⟨rfl, rfl⟩) | (go_at_call 57; refine (rcrop_any _ _).mono ?_; rintro e w' ⟨rfl, rfl⟩) | (go_at_call 87; refine (ordered_any _ _ _ _ pl dry H.parts _ (h.below hb0x.out) (hpp.below hb0x.out)).mono ?_; rintro e w1 ⟨rfl, hb1⟩; have g1 := hat.out _ hb1; obtain ⟨_, _, _, _, _, k5, k6⟩ := seven_cells g1) | (go_at_call 58; refine (rspan_any _ _ _ _ _).mono ?_; rintro e w2 ⟨rfl, hb2⟩))
          refine bodyPost_ret (v := .bool false) (by simp [results, Try.results88, go_sem]) rfl ⟨by rw [hres.out, hhd.out, c3]; simp, hb0x.out⟩
      | true =>
        have c3' : 1 ≤ H.stage ∧ H.stage ≤ 3 := by simpa [inB] using c3
        obtain ⟨c31, c32⟩ := c3'
        by_cases c4 : H.parts.length = 0
        · have c4' : decide (H.parts.length ≠ 0) = false := by simpa using c4
          have c4b : ((H.parts.length : Int) == 0) = true := by simpa using c4
          replace c4' := Lib.hid c4'
          replace c4 := Lib.hid c4
          go_enter Try.func88, Try.ntmps88
          go_wp2_with (first | (go_at_call 56; refine (rName_any _ _ hnm').mono ?_; rintro e w' ⟨rfl, rfl⟩) | (go_at_call 57; refine (rcrop_any _ _).mono ?_; rintro e w' ⟨rfl, rfl⟩) | (go_at_call 87; refine (ordered_any _ _ _ _ pl dry H.parts _ (h.below hb0x.out) (hpp.below hb0x.out)).mono ?_; rintro e w1 ⟨rfl, hb1⟩; have g1 := hat.out _ hb1; obtain ⟨_, _, _, _, _, k5, k6⟩ := seven_cells g1) | (go_at_call 58; refine (rspan_any _ _ _ _ _).mono ?_; rintro e w2 ⟨rfl, hb2⟩))
          refine bodyPost_ret (v := .bool false) (by simp [results, Try.results88, go_sem]) rfl ⟨by rw [hres.out, hhd.out, c4'.out]; simp, hb0x.out⟩
        · have c4b : ((H.parts.length : Int) == 0) = false := by simpa using c4
          have c4' : decide (H.parts.length ≠ 0) = true := by simpa using c4
          replace c4' := Lib.hid c4'
          replace c4 := Lib.hid c4
          cases c5 : properB pl.length H.parts with
          | false =>
            go_enter Try.func88, Try.ntmps88
            go_wp2_with (first | (go_at_call 56; refine (rName_any _ _ hnm').mono ?_; rintro e w' ⟨rfl, rfl⟩) | (go_at_call 57; refine (rcrop_any _ _).mono ?_; rintro e w' ⟨rfl, rfl⟩) | (go_at_call 87; refine (ordered_any _ _ _ _ pl dry H.parts _ (h.below hb0x.out) (hpp.below hb0x.out)).mono ?_; rintro e w1 ⟨rfl, hb1⟩; have g1 := hat.out _ hb1; obtain ⟨_, _, _, _, _, k5, k6⟩ := seven_cells g1) | (go_at_call 58; refine (rspan_any _ _ _ _ _).mono ?_; rintro e w2 ⟨rfl, hb2⟩))
            refine bodyPost_ret (v := .bool false) (by simp [results, Try.results88, go_sem]) rfl ⟨by rw [hres.out, hhd.out, c5]; simp, hfin.out _ hb1⟩
          | true =>
            cases c6 : spanB H.wet.lo H.wet.hi 0 1000 with
            | false =>
              go_enter Try.func88, Try.ntmps88
              go_wp2_with (first | (go_at_call 56; refine (rName_any _ _ hnm').mono ?_; rintro e w' ⟨rfl, rfl⟩) | (go_at_call 57; refine (rcrop_any _ _).mono ?_; rintro e w' ⟨rfl, rfl⟩) | (go_at_call 87; refine (ordered_any _ _ _ _ pl dry H.parts _ (h.below hb0x.out) (hpp.below hb0x.out)).mono ?_; rintro e w1 ⟨rfl, hb1⟩; have g1 := hat.out _ hb1; obtain ⟨_, _, _, _, _, k5, k6⟩ := seven_cells g1) | (go_at_call 58; refine (rspan_any _ _ _ _ _).mono ?_; rintro e w2 ⟨rfl, hb2⟩))
              refine bodyPost_ret (v := .bool false) (by simp [results, Try.results88, go_sem]) rfl ⟨by rw [hres.out, hhd.out, c6]; simp, hfin.out _ (hb1.trans (hb2.mono hb1.size))⟩
            | true =>
              have hhd1 : Hid (heapHead pl H = true) := by unfold Hid; rw [hhd.out, c1, c2, c3, c4'.out, c5, c6]; rfl
              go_enter Try.func88, Try.ntmps88
              go_wp2_with (first | (go_at_call 56; refine (rName_any _ _ hnm').mono ?_; rintro e w' ⟨rfl, rfl⟩) | (go_at_call 57; refine (rcrop_any _ _).mono ?_; rintro e w' ⟨rfl, rfl⟩) | (go_at_call 87; refine (ordered_any _ _ _ _ pl dry H.parts _ (h.below hb0x.out) (hpp.below hb0x.out)).mono ?_; rintro e w1 ⟨rfl, hb1⟩; have g1 := hat.out _ hb1; obtain ⟨_, _, _, _, _, k5, k6⟩ := seven_cells g1) | (go_at_call 58; refine (rspan_any _ _ _ _ _).mono ?_; rintro e w2 ⟨rfl, hb2⟩))
              have hb12 := hb1.trans (hb2.mono hb1.size)
              replace hb12 := Lib.hid hb12
              clear hb1 hb2 k5 k6 g1
              go_loopw [8] (fun v wr => ∃ j : Nat, v = .int .i64 j ∧ j ≤ i ∧ Hid (∀ x, x < j → (s.heaps.getD x default).name ≠ H.name) ∧ Hid (Below (((w.alloc (.cells #[.slice A pl.length c, .int .i64 dry] 24)).alloc (.cells (storeCells s) 43)).alloc (.cells (hcells H) 77)).heap.size (((w.alloc (.cells #[.slice A pl.length c, .int .i64 dry] 24)).alloc (.cells (storeCells s) 43)).alloc (.cells (hcells H) 77)) wr)) (fun v _ => i - (intOf v).toNat)
              case atStart => exact ⟨0, rfl, Nat.zero_le _, (fun x hx => absurd hx (Nat.not_lt_zero _)), hb12⟩
              case round =>
                obtain ⟨j, rfl, hji, hdiff, hBr⟩ := hrel
                have g1 := hat.out _ hBr.out
                have g2 := hat2.out _ hBr.out
                obtain ⟨k0, k1, k2, k3, k4, k5, k6⟩ := seven_cells g1
                obtain ⟨s0, s1, s2, s3, s4, s5⟩ := six_cells g2
                rw [hlo.out] at s3
                by_cases hlt : j < i
                · have hjl : j < s.heaps.length := by omega
                  obtain ⟨ad2, hA2, r0, r1, r2, r3, r4, r5, r6⟩ := (FlatRow.below hs.heaps.1 (hfin.out _ hBr.out)).at7 hjl rfl
                  rw [hlo.out] at hA2
                  cases hA2
                  by_cases hne : s.heaps[j].name = H.name
                  · have hbe : (s.heaps[j].name.toList == H.name.toList) = true := by rw [hne]; simp
                    go_wp2
                    go_big_quiet (fail)
                    go_wp2
                    refine bodyPost_ret (v := .bool false) (by simp [results, Try.results88, go_sem]) rfl ⟨?_, (hfin.out _ hBr.out).trans (below_drewN_ wr nq)⟩
                    rw [hres.out, heapNew_stop hlt (by rw [getD_lt _ hjl, hne, getD_lt _ hi, hH.out]) hjl]; rfl
                  · have hbe : (s.heaps[j].name.toList == H.name.toList) = false := by rw [bytes_beq]; simpa using hne
                    go_wp2
                    go_big_quiet (fail)
                    go_wp2
                    refine ⟨⟨j + 1, by go_num, by omega, (fun x hx => ?_), hBr.out.trans (below_drewN_ wr nq)⟩, by simp only [intOf]; omega⟩
                    by_cases hxj : x = j
                    · subst hxj; rw [getD_lt _ hjl]; exact hne
                    · exact hdiff.out x (by omega)
                · go_wp2
                  have hji' : j = i := by omega
                  have hnew : Hid (heapNew s.heaps i = true) := heapNew_end (fun x hx => by rw [getD_lt _ hi, ← hH.out]; exact hdiff.out x (by omega))
                  have hres2 : Hid (heapAt pl s.heaps i = (cropsB pl H && heapTail H)) := by unfold Hid; rw [hres.out, hnew.out, hhd1.out]; simp only [Bool.true_and]
                  clear k0 k1 k2 k3 k4 k5 k6 s0 s1 s2 s3 s4 s5 g1 g2
                  have hBr := hBr.out
                  replace hBr := Lib.hid hBr
                  obtain ⟨wo, rfl⟩ : ∃ x, x = wr := ⟨wr, rfl⟩
                  go_loopw [9] (fun v wr => ∃ x : Nat, v = .int .i64 x ∧ x ≤ H.parts.length ∧ Hid (∀ y, y < x → (heapB.plotAt' pl (H.parts.getD y default).plot).crop = H.crop) ∧ Hid (Below (((w.alloc (.cells #[.slice A pl.length c, .int .i64 dry] 24)).alloc (.cells (storeCells s) 43)).alloc (.cells (hcells H) 77)).heap.size (((w.alloc (.cells #[.slice A pl.length c, .int .i64 dry] 24)).alloc (.cells (storeCells s) 43)).alloc (.cells (hcells H) 77)) wr)) (fun v _ => H.parts.length - (intOf v).toNat)
                  case atStart => exact ⟨0, rfl, Nat.zero_le _, (fun x hx => absurd hx (Nat.not_lt_zero _)), hBr⟩
                  case round =>
                    obtain ⟨x, rfl, hx, hcr, hBs⟩ := hrel
                    have g1 := hat.out _ hBs.out
                    have g3 := hat3.out _ hBs.out
                    obtain ⟨k0, k1, k2, k3, k4, k5, k6⟩ := seven_cells g1
                    have y1 := cell_of_two g3
                    by_cases hlx : x < H.parts.length
                    · obtain ⟨ap, hAp, q0, q1⟩ := FlatRow.at2 (RdParts.below hpp (hfin.out _ hBs.out)) hlx rfl
                      rw [hAp] at k3
                      have hpx := allB_get c5 hlx
                      rw [partAt_get hlx] at hpx
                      simp only [Bool.and_eq_true, inB, decide_eq_true_eq] at hpx
                      obtain ⟨⟨⟨u1, u2⟩, _⟩, _⟩ := hpx
                      obtain ⟨m, hm⟩ : ∃ m : Nat, H.parts[x].plot = (m : Int) := ⟨H.parts[x].plot.toNat, by omega⟩
                      rw [hm] at q0 u1 u2
                      have hml : m < pl.length := by omega
                      obtain ⟨af, hAf, f0, f1, f2, f3, f4, f5, f6, f7, f8⟩ := (h.1.below (hfin.out _ hBs.out)).at9 hml rfl
                      rw [hAf] at y1
                      have hpa : heapB.plotAt' pl (H.parts.getD x default).plot = pl[m] := by
                        rw [getD_lt _ hlx, hm]; unfold heapB.plotAt'; rw [Int.toNat_natCast, getD_lt _ hml]
                      replace hpa := Lib.hid hpa
                      replace hm := Lib.hid hm
                      replace hAf := Lib.hid hAf
                      replace hAp := Lib.hid hAp
                      by_cases hce : pl[m].crop = H.crop
                      · have cbe : (pl[m].crop != H.crop) = false := by rw [hce]; simp
                        replace hce := Lib.hid hce
                        go_wp2
                        go_big_quiet (fail)
                        go_wp2
                        refine ⟨⟨x + 1, by go_num, by omega, (fun y hy => ?_), hBs.out.trans (below_drewN_ wr nq)⟩, by simp only [intOf]; omega⟩
                        by_cases hyx : y = x
                        · subst hyx; rw [hpa.out]; exact hce.out
                        · exact hcr.out y (by omega)
                      · have cbe : (pl[m].crop != H.crop) = true := bne_iff_ne.2 hce
                        replace hce := Lib.hid hce
                        go_wp2
                        go_big_quiet (fail)
                        go_wp2
                        refine bodyPost_ret (v := .bool false) (by simp [results, Try.results88, go_sem]) rfl ⟨by rw [hres2.out, crops_stop hlx (by rw [hpa.out]; exact hce.out)]; rfl, (hfin.out _ hBs.out).trans (below_drewN_ wr nq)⟩
                    · by_cases hst : H.stage = 3
                      · go_wp2
                        have hall : cropsB pl H = true := crops_end (fun y hy => hcr.out y (by omega))
                        have hmild : Mild H.parts := ⟨hpl, fun p hp => by
                          obtain ⟨y, hy, rfl⟩ := List.mem_iff_getElem.1 hp
                          have hpy := allB_get c5 hy
                          rw [partAt_get hy] at hpy
                          simp only [Bool.and_eq_true, inB, decide_eq_true_eq] at hpy
                          omega⟩
                        obtain ⟨sm1, sm2⟩ := hmild.sum
                        have hq1 : ∀ n, Calls Try.prog 49 #[.int .i64 H.per, .int .i64 1, .int .i64 100] (wr.drewN n) fun e w' => e = .returned (.bool (inB H.per 1 100)) ∧ w' = wr.drewN n := fun n => (rin_any _ _ _ _).mono fun _ _ ⟨a, b⟩ => ⟨a, b.symm⟩
                        have hq2 : ∀ n, Calls Try.prog 71 #[.slice H.pa H.parts.length H.pc] (wr.drewN n) fun e w' => e = .returned (.int .i64 (sumL H.parts)) ∧ w' = wr.drewN n := fun n => (loads_any _ _ _ _ (RdParts.below hpp ((hfin.out _ hBs.out).trans (below_drewN_ wr n))) hmild).mono fun _ _ ⟨a, b⟩ => ⟨a, b.symm⟩
                        cases hper : inB H.per 1 100 with
                        | false =>
                          rw [hper] at hq1
                          go_big_quiet (first | (go_at_call 49; exact Calls.quiet_of_same (hq1 _)) | (go_at_call 71; exact Calls.quiet_of_same (hq2 _)))
                          go_wp2
                          refine bodyPost_ret (v := .bool false) (by simp [results, Try.results88, go_sem]) rfl ⟨by rw [hres2.out, hall, heapTail, if_pos hst, hper]; rfl, (hfin.out _ hBs.out).trans (below_drewN_ wr nq)⟩
                        | true =>
                          rw [hper] at hq1
                          have hper2 : 1 ≤ H.per ∧ H.per ≤ 100 := by simpa [inB] using hper
                          obtain ⟨hp1, hp2⟩ := hper2
                          have hp0 : H.per ≠ 0 := by omega
                          go_big_quiet (first | (go_at_call 49; exact Calls.quiet_of_same (hq1 _)) | (go_at_call 71; exact Calls.quiet_of_same (hq2 _)))
                          go_wp2
                          refine bodyPost_ret (v := .bool (sumL H.parts % H.per == 0)) (by simp [results, Try.results88, go_sem]) rfl ⟨?_, (hfin.out _ hBs.out).trans (below_drewN_ wr nq)⟩
                          rw [hres2.out, hall, heapTail, if_pos hst, hper]
                          exact ret_bool (by rw [Bool.true_and, Bool.true_and]; rfl)
                      · have hsb : (H.stage != 3) = true := bne_iff_ne.2 hst
                        go_wp2
                        refine bodyPost_ret (v := .bool (H.per == 0)) (by simp [results, Try.results88, go_sem]) rfl ⟨?_, hfin.out _ hBs.out⟩
                        rw [hres2.out, crops_end (fun y hy => hcr.out y (by omega)), heapTail, if_neg hst]
                        exact ret_bool (by rw [Bool.true_and]; rfl)
end Go.Proofs.Ytpgkhlpepckfgaa
end
section
namespace Go.Proofs.Ytpgkhlpepckfgaa
open Go.RowKit Go.Lib

structure SameHp (a b : Heap) : Prop where
  name : b.name = a.name
  crop : b.crop = a.crop
  stage : b.stage = a.stage
  parts : b.parts = a.parts
  per : b.per = a.per
  wet : b.wet = a.wet
structure SameS (s t : Store) : Prop where
  year : t.year = s.year
  last : t.last = s.last
  given : t.given = s.given
  used : t.used = s.used
  waste : t.waste = s.waste
  hlen : t.heaps.length = s.heaps.length
  heaps : ∀ i (h1 : i < s.heaps.length) (h2 : i < t.heaps.length), SameHp s.heaps[i] t.heaps[i]

abbrev WS2 (w : World) (s t : Store) : World := (w.alloc (.cells (storeCells s) 43)).alloc (.cells (storeCells t) 43)

set_option maxHeartbeats 4000000 in
set_option maxRecDepth 100000 in
theorem sameStore_any (s t : Store) (w : World) (hs : RdStore w s) (ht : RdStore w t) (h : SameS s t) :
    Calls Try.prog 27 #[storeVal s, storeVal t] w fun e w' => e = .returned (.bool true) ∧ Below w.heap.size w w' := by
  have hl1 := hs.heaps.1.1
  have hb0 : Below w.heap.size w (WS2 w s t) := ((Below.refl _ w).alloc (Nat.le_refl _) _).alloc (by simp) _
  have hat : ∀ wx, Below (WS2 w s t).heap.size (WS2 w s t) wx → wx.heap[w.heap.size]? = some (.cells (storeCells s) 43 (0, 0)) ∧ wx.heap[w.heap.size + 1]? = some (.cells (storeCells t) 43 (0, 0)) ∧ Below w.heap.size w wx := fun wx hx =>
    ⟨(hx.block _ (by simp; omega)).trans (heap_old _ _ _ _ (heap_new _ _ _ rfl)), (hx.block _ (by simp)).trans (heap_new _ _ _ (by simp)), hb0.trans (hx.mono hb0.size)⟩
  replace hat := Lib.hid hat
  have hs0 := hs.below hb0
  have ht0 := ht.below hb0
  have hr : Below (WS2 w s t).heap.size (WS2 w s t) (WS2 w s t) := Below.refl _ _
  have e1 := h.year
  have e2 := congrArg List.length h.last
  have e3 := congrArg List.length h.given
  have e4 := congrArg List.length h.used
  have e5 := congrArg List.length h.waste
  have e6 := h.hlen
  replace hb0 := Lib.hid hb0
  go_enter Try.func27, Try.ntmps27
  have l1 : RdInts (WS2 w s t) t.la s.last := h.last ▸ ht0.last
  have l2 : RdInts (WS2 w s t) t.ga s.given := h.given ▸ ht0.given
  have l3 : RdParts (WS2 w s t) t.ua s.used := h.used ▸ ht0.used
  have l4 : RdParts (WS2 w s t) t.wa s.waste := h.waste ▸ ht0.waste
  go_wp2_with (first | (go_at_call 59; first | (refine (rsameInts_any _ _ _ _ s.given s.given _ (hs0.given.below hx1) (l2.below hx1)).mono ?_; rintro e w2 ⟨rfl, hb2⟩; have hx2 := hx1.trans (hb2.mono hx1.size); obtain ⟨g2, g2', _⟩ := hat.out _ hx2; obtain ⟨x0, x1, x2, x3, x4, x5⟩ := six_cells g2; obtain ⟨y0, y1, y2, y3, y4, y5⟩ := six_cells g2') | (refine (rsameInts_any _ _ _ _ s.last s.last _ hs0.last l1).mono ?_; rintro e w1 ⟨rfl, hx1⟩; obtain ⟨g1, g1', _⟩ := hat.out _ hx1; obtain ⟨u0, u1, u2, u3, u4, u5⟩ := six_cells g1; obtain ⟨v0, v1, v2, v3, v4, v5⟩ := six_cells g1')) | (go_at_call 34; first | (refine (sameParts_any _ _ _ _ s.waste s.waste _ (hs0.waste.below hx3) (l4.below hx3)).mono ?_; rintro e w4 ⟨rfl, hb4⟩; have hx4 := hx3.trans (hb4.mono hx3.size); obtain ⟨g4, g4', _⟩ := hat.out _ hx4; obtain ⟨r0, r1, r2, r3, r4, r5⟩ := six_cells g4; obtain ⟨q0, q1, q2, q3, q4, q5⟩ := six_cells g4') | (refine (sameParts_any _ _ _ _ s.used s.used _ (hs0.used.below hx2) (l3.below hx2)).mono ?_; rintro e w3 ⟨rfl, hb3⟩; have hx3 := hx2.trans (hb3.mono hx2.size); obtain ⟨g3, g3', _⟩ := hat.out _ hx3; obtain ⟨m0, m1, m2, m3, m4, m5⟩ := six_cells g3; obtain ⟨n0, n1, n2, n3, n4, n5⟩ := six_cells g3')))
  have hx4' := Lib.hid hx4
  go_loopw [5] (fun v wr => ∃ k : Nat, v = .int .i64 k ∧ k ≤ s.heaps.length ∧ Hid (Below (WS2 w s t).heap.size (WS2 w s t) wr)) (fun v _ => s.heaps.length - (intOf v).toNat)
  case atStart => exact ⟨0, rfl, Nat.zero_le _, hx4'⟩
  case round =>
    obtain ⟨k, rfl, hk, hB⟩ := hrel
    obtain ⟨g4, g4', hBw⟩ := hat.out _ hB.out
    obtain ⟨r0, r1, r2, r3, r4, r5⟩ := six_cells g4
    obtain ⟨q0, q1, q2, q3, q4, q5⟩ := six_cells g4'
    by_cases hlt : k < s.heaps.length
    · have hlt2 : k < t.heaps.length := by rw [h.hlen]; exact hlt
      obtain ⟨z1, z2, z3, z4, z5, z6⟩ := h.heaps k hlt hlt2
      have hba : Below wr.heap.size wr (wr.alloc (.cells #[.string ⟨#[]⟩, .int .i64 0, .int .i64 0, .slice none 0 0, .int .i64 0, .int .i64 0, .int .i64 0] 77)) := (Below.refl _ wr).alloc (Nat.le_refl _) _
      have hbb : Below wr.heap.size wr ((wr.alloc (.cells #[.string ⟨#[]⟩, .int .i64 0, .int .i64 0, .slice none 0 0, .int .i64 0, .int .i64 0, .int .i64 0] 77)).alloc (.cells #[.string ⟨#[]⟩, .int .i64 0, .int .i64 0, .slice none 0 0, .int .i64 0, .int .i64 0, .int .i64 0] 77)) := hba.alloc hba.size _
      obtain ⟨aa, ah, a0, a1, a2, a3, a4, a5, a6⟩ := (FlatRow.below hs.heaps.1 (hBw)).at7 hlt rfl
      obtain ⟨aa', ah', a0', a1', a2', a3', a4', a5', a6'⟩ := (FlatRow.below ht.heaps.1 (hBw)).at7 hlt2 rfl
      rw [z1] at a0'
      rw [z2] at a1'
      rw [z3] at a2'
      rw [z4] at a3'
      rw [z5] at a4'
      rw [z6] at a5' a6'
      obtain ⟨ba, bh, b0, b1, b2, b3, b4, b5, b6⟩ := (FlatRow.below hs.heaps.1 (hBw.trans (hba.mono hBw.size))).at7 hlt rfl
      obtain ⟨ba', bh', b0', b1', b2', b3', b4', b5', b6'⟩ := (FlatRow.below ht.heaps.1 (hBw.trans (hba.mono hBw.size))).at7 hlt2 rfl
      rw [z1] at b0'
      rw [z2] at b1'
      rw [z3] at b2'
      rw [z4] at b3'
      rw [z5] at b4'
      rw [z6] at b5' b6'
      obtain ⟨ca, ch, c0, c1, c2, c3, c4, c5, c6⟩ := (FlatRow.below hs.heaps.1 (hBw.trans (hbb.mono hBw.size))).at7 hlt rfl
      obtain ⟨ca', ch', c0', c1', c2', c3', c4', c5', c6'⟩ := (FlatRow.below ht.heaps.1 (hBw.trans (hbb.mono hBw.size))).at7 hlt2 rfl
      rw [z1] at c0'
      rw [z2] at c1'
      rw [z3] at c2'
      rw [z4] at c3'
      rw [z5] at c4'
      rw [z6] at c5' c6'
      have hz := hB.out.size
      simp only [World.size_alloc] at hz
      have hz0 : w.heap.size < wr.heap.size := by omega
      have hz1 : w.heap.size + 1 < wr.heap.size := by omega
      obtain ⟨_, _, _, d3, _, _⟩ := six_cells ((hba.block _ hz0).trans g4)
      obtain ⟨_, _, _, d3', _, _⟩ := six_cells ((hba.block _ hz1).trans g4')
      obtain ⟨_, _, _, d4, _, _⟩ := six_cells ((hbb.block _ hz0).trans g4)
      obtain ⟨_, _, _, d4', _, _⟩ := six_cells ((hbb.block _ hz1).trans g4')
      rw [ah] at r3 d3 d4
      rw [ah'] at q3 d3' d4'
      cases bh.symm.trans ah
      cases ch.symm.trans ah
      cases bh'.symm.trans ah'
      cases ch'.symm.trans ah'
      have hk1 := World.block_lt_of_cell? wr _ a0
      have hk2 := World.block_lt_of_cell? wr _ a0'
      have hk1' := Nat.lt_succ_of_lt hk1
      have hk2' := Nat.lt_succ_of_lt hk2
      have hz0' := Nat.lt_succ_of_lt hz0
      have hz1' := Nat.lt_succ_of_lt hz1
      obtain ⟨hp1, _⟩ := hs.heaps.2 _ (List.getElem_mem hlt)
      obtain ⟨hp2, _⟩ := ht.heaps.2 _ (List.getElem_mem hlt2)
      rw [z4] at hp2
      replace ah := Lib.hid ah
      replace ah' := Lib.hid ah'
      clear bh ch bh' ch'
      clear z1 z2 z3 z4 z5 z6
      generalize s.heaps[k] = H at *
      have hall : ∀ o1 o2 : Obj, Below (WS2 w s t).heap.size (WS2 w s t) ((wr.alloc o1).alloc o2).drew := fun o1 o2 => ((hB.out.alloc hB.out.size o1).alloc (Nat.le_trans hB.out.size (by rw [World.size_alloc]; exact Nat.le_succ _)) o2).drew
      replace hall := Lib.hid hall
      clear hba hbb
      go_wp2
      go_region
      all_goals
        go_wp2_with (go_at_call 34; refine (sameParts_any _ _ _ _ H.parts H.parts _ (hp1.below (hat.out _ (hall.out _ _)).2.2) (hp2.below (hat.out _ (hall.out _ _)).2.2)).mono ?_; rintro e w5 ⟨rfl, hb5⟩)
        have hx5 := (hall.out _ _).trans (hb5.mono (hall.out _ _).size)
        exact ⟨⟨k + 1, by go_num, by omega, hx5⟩, by simp only [intOf]; omega⟩
    · go_wp2
      refine bodyPost_ret (v := .bool true) (by simp [results, Try.results27, go_sem]) rfl ⟨rfl, hBw⟩
end Go.Proofs.Ytpgkhlpepckfgaa
end
