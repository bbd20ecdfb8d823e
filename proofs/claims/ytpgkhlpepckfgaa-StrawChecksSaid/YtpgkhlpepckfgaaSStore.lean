/-
  Stores that hold the same are the same: SameStore, walked.
-/
import Derived.Test.YtpgkhlpepckfgaaSSame
import Derived.Test.YtpgkhlpepckfgaaSHeap
namespace Go.Proofs.Ytpgkhlpepckfgaa
open Go.RowKit Go.Lib

structure SameH (a b : Heap) : Prop where
  name : b.name = a.name
  crop : b.crop = a.crop
  stage : b.stage = a.stage
  parts : b.parts = a.parts
  per : b.per = a.per
  wet : b.wet = a.wet
structure SameS (s t : Store) : Prop where
  year : t.year = s.year
  last : t.last = s.last
  given : t.given = s.given
  used : t.used = s.used
  waste : t.waste = s.waste
  hlen : t.heaps.length = s.heaps.length
  heaps : ∀ i (h1 : i < s.heaps.length) (h2 : i < t.heaps.length), SameH s.heaps[i] t.heaps[i]

abbrev WS2 (w : World) (s t : Store) : World := (w.alloc (.cells (storeCells s) 43)).alloc (.cells (storeCells t) 43)

set_option maxHeartbeats 4000000 in
set_option maxRecDepth 100000 in
theorem sameStore_any (s t : Store) (w : World) (hs : RdStore w s) (ht : RdStore w t) (h : SameS s t) :
    Calls Try.prog 27 #[storeVal s, storeVal t] w fun e w' => e = .returned (.bool true) ∧ Below w.heap.size w w' := by
  have hl1 := hs.heaps.1.1
  have hb0 : Below w.heap.size w (WS2 w s t) := ((Below.refl _ w).alloc (Nat.le_refl _) _).alloc (by simp) _
  have hat : ∀ wx, Below (WS2 w s t).heap.size (WS2 w s t) wx → wx.heap[w.heap.size]? = some (.cells (storeCells s) 43 (0, 0)) ∧ wx.heap[w.heap.size + 1]? = some (.cells (storeCells t) 43 (0, 0)) ∧ Below w.heap.size w wx := fun wx hx =>
    ⟨(hx.block _ (by simp; omega)).trans (heap_old _ _ _ _ (heap_new _ _ _ rfl)), (hx.block _ (by simp)).trans (heap_new _ _ _ (by simp)), hb0.trans (hx.mono hb0.size)⟩
  replace hat := Lib.hid hat
  have hs0 := hs.below hb0
  have ht0 := ht.below hb0
  have hr : Below (WS2 w s t).heap.size (WS2 w s t) (WS2 w s t) := Below.refl _ _
  have e1 := h.year
  have e2 := congrArg List.length h.last
  have e3 := congrArg List.length h.given
  have e4 := congrArg List.length h.used
  have e5 := congrArg List.length h.waste
  have e6 := h.hlen
  replace hb0 := Lib.hid hb0
  go_enter Try.func27, Try.ntmps27
  have l1 : RdInts (WS2 w s t) t.la s.last := h.last ▸ ht0.last
  have l2 : RdInts (WS2 w s t) t.ga s.given := h.given ▸ ht0.given
  have l3 : RdParts (WS2 w s t) t.ua s.used := h.used ▸ ht0.used
  have l4 : RdParts (WS2 w s t) t.wa s.waste := h.waste ▸ ht0.waste
  go_wp2_with (first | (go_at_call 59; first | (refine (rsameInts_any _ _ _ _ s.given s.given _ (hs0.given.below hx1) (l2.below hx1)).mono ?_; rintro e w2 ⟨rfl, hb2⟩; have hx2 := hx1.trans (hb2.mono hx1.size); obtain ⟨g2, g2', _⟩ := hat.out _ hx2; obtain ⟨x0, x1, x2, x3, x4, x5⟩ := six_cells g2; obtain ⟨y0, y1, y2, y3, y4, y5⟩ := six_cells g2') | (refine (rsameInts_any _ _ _ _ s.last s.last _ hs0.last l1).mono ?_; rintro e w1 ⟨rfl, hx1⟩; obtain ⟨g1, g1', _⟩ := hat.out _ hx1; obtain ⟨u0, u1, u2, u3, u4, u5⟩ := six_cells g1; obtain ⟨v0, v1, v2, v3, v4, v5⟩ := six_cells g1')) | (go_at_call 34; first | (refine (sameParts_any _ _ _ _ s.waste s.waste _ (hs0.waste.below hx3) (l4.below hx3)).mono ?_; rintro e w4 ⟨rfl, hb4⟩; have hx4 := hx3.trans (hb4.mono hx3.size); obtain ⟨g4, g4', _⟩ := hat.out _ hx4; obtain ⟨r0, r1, r2, r3, r4, r5⟩ := six_cells g4; obtain ⟨q0, q1, q2, q3, q4, q5⟩ := six_cells g4') | (refine (sameParts_any _ _ _ _ s.used s.used _ (hs0.used.below hx2) (l3.below hx2)).mono ?_; rintro e w3 ⟨rfl, hb3⟩; have hx3 := hx2.trans (hb3.mono hx2.size); obtain ⟨g3, g3', _⟩ := hat.out _ hx3; obtain ⟨m0, m1, m2, m3, m4, m5⟩ := six_cells g3; obtain ⟨n0, n1, n2, n3, n4, n5⟩ := six_cells g3')))
  have hx4' := Lib.hid hx4
  go_loopw [5] (fun v wr => ∃ k : Nat, v = .int .i64 k ∧ k ≤ s.heaps.length ∧ Hid (Below (WS2 w s t).heap.size (WS2 w s t) wr)) (fun v _ => s.heaps.length - (intOf v).toNat)
  case atStart => exact ⟨0, rfl, Nat.zero_le _, hx4'⟩
  case round =>
    obtain ⟨k, rfl, hk, hB⟩ := hrel
    obtain ⟨g4, g4', hBw⟩ := hat.out _ hB.out
    obtain ⟨r0, r1, r2, r3, r4, r5⟩ := six_cells g4
    obtain ⟨q0, q1, q2, q3, q4, q5⟩ := six_cells g4'
    by_cases hlt : k < s.heaps.length
    · have hlt2 : k < t.heaps.length := by rw [h.hlen]; exact hlt
      obtain ⟨z1, z2, z3, z4, z5, z6⟩ := h.heaps k hlt hlt2
      have hba : Below wr.heap.size wr (wr.alloc (.cells #[.string ⟨#[]⟩, .int .i64 0, .int .i64 0, .slice none 0 0, .int .i64 0, .int .i64 0, .int .i64 0] 77)) := (Below.refl _ wr).alloc (Nat.le_refl _) _
      have hbb : Below wr.heap.size wr ((wr.alloc (.cells #[.string ⟨#[]⟩, .int .i64 0, .int .i64 0, .slice none 0 0, .int .i64 0, .int .i64 0, .int .i64 0] 77)).alloc (.cells #[.string ⟨#[]⟩, .int .i64 0, .int .i64 0, .slice none 0 0, .int .i64 0, .int .i64 0, .int .i64 0] 77)) := hba.alloc hba.size _
      obtain ⟨aa, ah, a0, a1, a2, a3, a4, a5, a6⟩ := (FlatRow.below hs.heaps.1 (hBw)).at7 hlt rfl
      obtain ⟨aa', ah', a0', a1', a2', a3', a4', a5', a6'⟩ := (FlatRow.below ht.heaps.1 (hBw)).at7 hlt2 rfl
      rw [z1] at a0'
      rw [z2] at a1'
      rw [z3] at a2'
      rw [z4] at a3'
      rw [z5] at a4'
      rw [z6] at a5' a6'
      obtain ⟨ba, bh, b0, b1, b2, b3, b4, b5, b6⟩ := (FlatRow.below hs.heaps.1 (hBw.trans (hba.mono hBw.size))).at7 hlt rfl
      obtain ⟨ba', bh', b0', b1', b2', b3', b4', b5', b6'⟩ := (FlatRow.below ht.heaps.1 (hBw.trans (hba.mono hBw.size))).at7 hlt2 rfl
      rw [z1] at b0'
      rw [z2] at b1'
      rw [z3] at b2'
      rw [z4] at b3'
      rw [z5] at b4'
      rw [z6] at b5' b6'
      obtain ⟨ca, ch, c0, c1, c2, c3, c4, c5, c6⟩ := (FlatRow.below hs.heaps.1 (hBw.trans (hbb.mono hBw.size))).at7 hlt rfl
      obtain ⟨ca', ch', c0', c1', c2', c3', c4', c5', c6'⟩ := (FlatRow.below ht.heaps.1 (hBw.trans (hbb.mono hBw.size))).at7 hlt2 rfl
      rw [z1] at c0'
      rw [z2] at c1'
      rw [z3] at c2'
      rw [z4] at c3'
      rw [z5] at c4'
      rw [z6] at c5' c6'
      have hz := hB.out.size
      simp only [World.size_alloc] at hz
      have hz0 : w.heap.size < wr.heap.size := by omega
      have hz1 : w.heap.size + 1 < wr.heap.size := by omega
      obtain ⟨_, _, _, d3, _, _⟩ := six_cells ((hba.block _ hz0).trans g4)
      obtain ⟨_, _, _, d3', _, _⟩ := six_cells ((hba.block _ hz1).trans g4')
      obtain ⟨_, _, _, d4, _, _⟩ := six_cells ((hbb.block _ hz0).trans g4)
      obtain ⟨_, _, _, d4', _, _⟩ := six_cells ((hbb.block _ hz1).trans g4')
      rw [ah] at r3 d3 d4
      rw [ah'] at q3 d3' d4'
      cases bh.symm.trans ah
      cases ch.symm.trans ah
      cases bh'.symm.trans ah'
      cases ch'.symm.trans ah'
      have hk1 := World.block_lt_of_cell? wr _ a0
      have hk2 := World.block_lt_of_cell? wr _ a0'
      have hk1' := Nat.lt_succ_of_lt hk1
      have hk2' := Nat.lt_succ_of_lt hk2
      have hz0' := Nat.lt_succ_of_lt hz0
      have hz1' := Nat.lt_succ_of_lt hz1
      obtain ⟨hp1, _⟩ := hs.heaps.2 _ (List.getElem_mem hlt)
      obtain ⟨hp2, _⟩ := ht.heaps.2 _ (List.getElem_mem hlt2)
      rw [z4] at hp2
      replace ah := Lib.hid ah
      replace ah' := Lib.hid ah'
      clear bh ch bh' ch'
      clear z1 z2 z3 z4 z5 z6
      generalize s.heaps[k] = H at *
      have hall : ∀ o1 o2 : Obj, Below (WS2 w s t).heap.size (WS2 w s t) ((wr.alloc o1).alloc o2).drew := fun o1 o2 => ((hB.out.alloc hB.out.size o1).alloc (Nat.le_trans hB.out.size (by rw [World.size_alloc]; exact Nat.le_succ _)) o2).drew
      replace hall := Lib.hid hall
      clear hba hbb
      go_wp2
      go_region
      all_goals
        go_wp2_with (go_at_call 34; refine (sameParts_any _ _ _ _ H.parts H.parts _ (hp1.below (hat.out _ (hall.out _ _)).2.2) (hp2.below (hat.out _ (hall.out _ _)).2.2)).mono ?_; rintro e w5 ⟨rfl, hb5⟩)
        have hx5 := (hall.out _ _).trans (hb5.mono (hall.out _ _).size)
        exact ⟨⟨k + 1, by go_num, by omega, hx5⟩, by simp only [intOf]; omega⟩
    · go_wp2
      refine bodyPost_ret (v := .bool true) (by simp [results, Try.results27, go_sem]) rfl ⟨rfl, hBw⟩
end Go.Proofs.Ytpgkhlpepckfgaa
