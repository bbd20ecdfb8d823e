/-
  The specification's enough, walked. Whether parts are in order, as the specification has it: walked. Whether parts are in order: straw.proper, walked. straw.count: the loads of parts are added, field by field: walked. thatchlaw02's example, which every statement of the layer asks last.
-/
import Derived.Test.YtpgkhlpepckfgaaXa09
import Derived.Test.YtpgkhlpepckfgaaXa10
import Derived.BigRegion
import Derived.ChangeAlike
import Derived.Outline
import Derived.RegionTactic
set_option linter.all false
set_option linter.unusedVariables false
set_option linter.unusedSimpArgs false
section
namespace Go.Proofs.Ytpgkhlpepckfgaa
open Go.RowKit Go.Lib

/-- The numbers are those of fields. -/
def InFields (pl : List Plot) (s : List Int) : Prop := ∀ i ∈ s, 0 ≤ i ∧ i < (pl.length : Int)

def gotN (pl : List Plot) (s : List Int) (k : Nat) : Need := needAfter pl ⟨0, 0, 0⟩ (s.take k)
theorem cells_four {w : World} {b : Nat} {x y z v : Value} {t : TypeId} (h : w.heap[b]? = some (.cells #[x, y, z, v] t (0, 0))) : w.cell? ⟨b, 0, none⟩ = some x ∧ w.cell? ⟨b, 1, none⟩ = some y ∧ w.cell? ⟨b, 2, none⟩ = some z ∧ w.cell? ⟨b, 3, none⟩ = some v := by
  refine ⟨?_, ?_, ?_, ?_⟩ <;> simp [World.cell?, h]
theorem frozen_four {w : World} {b : Nat} {cs : Array Value} {t : TypeId} (h : w.heap[b]? = some (.cells cs t (0, 0))) (o : Nat) : w.frozen? ⟨b, o, none⟩ = false := by simp [World.frozen?, h]
theorem set_cells {w : World} {b o : Nat} {cs : Array Value} {t : TypeId} (h : w.heap[b]? = some (.cells cs t (0, 0))) (u : Value) : (w.setCell ⟨b, o, none⟩ u).heap[b]? = some (.cells (cs.setIfInBounds o u) t (0, 0)) := by
  simp only [World.setCell, Array.getElem?_modify, h]
  rfl
theorem gotN_succ (pl : List Plot) (s : List Int) (k : Nat) (h : k < s.length) : gotN pl s (k + 1) = subAt pl (gotN pl s k) s[k] := by
  unfold gotN
  rw [List.take_succ_eq_append_getElem h, needAfter_snoc]
theorem needIn_zero : NeedIn ⟨0, 0, 0⟩ 0 := by unfold NeedIn; simp
theorem plotAt_ok {pl : List Plot} (hok : ∀ p ∈ pl, plotOk p = true) {i : Int} (h0 : 0 ≤ i) (h1 : i < (pl.length : Int)) : plotOk (plotAt pl i) = true := by
  unfold plotAt
  have : i.toNat < pl.length := by omega
  rw [getD_lt _ this]
  exact hok _ (List.getElem_mem this)
theorem gotN_in {pl : List Plot} {s : List Int} (hin : InFields pl s) (hok : ∀ p ∈ pl, plotOk p = true) : ∀ k, k ≤ s.length → NeedIn (gotN pl s k) (100000 * k)
  | 0, _ => by simpa [gotN, needAfter] using needIn_zero
  | k + 1, hk => by
    rw [gotN_succ pl s k (by omega), subAt]
    obtain ⟨h0, h1⟩ := hin _ (List.getElem_mem (show k < s.length by omega))
    have hp := plotAt_ok hok h0 h1
    obtain ⟨_, k2, k3, k4, k5, k6, _⟩ := plotOk_bounds hp
    have kk := prod_bounds k2 k3 k4 (by omega)
    exact ((gotN_in hin hok k (by omega)).sub _ _ kk.1).mono (by omega)
/-- What is got and what is still wanted go together. -/
theorem needAfter_shift (pl : List Plot) (n : Need) : ∀ (s : List Int) (m : Need), (needAfter pl ⟨n.reed + m.reed, n.straw + m.straw, n.heather + m.heather⟩ s) = ⟨n.reed + (needAfter pl m s).reed, n.straw + (needAfter pl m s).straw, n.heather + (needAfter pl m s).heather⟩
  | [], m => rfl
  | i :: s, m => by
    have key : subAt pl ⟨n.reed + m.reed, n.straw + m.straw, n.heather + m.heather⟩ i = ⟨n.reed + (subAt pl m i).reed, n.straw + (subAt pl m i).straw, n.heather + (subAt pl m i).heather⟩ := by
      unfold subAt needSub
      split
      · simp; omega
      · split
        · simp; omega
        · simp; omega
    have := needAfter_shift pl n s (subAt pl m i)
    simp only [needAfter, List.foldl_cons] at this ⊢
    rw [key]; exact this
theorem enough_got (pl : List Plot) (n : Need) (s : List Int) : enoughB pl n s = (decide (n.reed ≤ -(gotN pl s s.length).reed) && decide (n.straw ≤ -(gotN pl s s.length).straw) && decide (n.heather ≤ -(gotN pl s s.length).heather)) := by
  have h := needAfter_shift pl n s ⟨0, 0, 0⟩
  simp only [Int.add_zero] at h
  unfold enoughB gotN
  rw [List.take_length]
  have h' : needAfter pl n s = ⟨n.reed + (needAfter pl ⟨0, 0, 0⟩ s).reed, n.straw + (needAfter pl ⟨0, 0, 0⟩ s).straw, n.heather + (needAfter pl ⟨0, 0, 0⟩ s).heather⟩ := h
  rw [h', Bool.eq_iff_iff]
  simp only [needMax, decide_eq_true_eq, Bool.and_eq_true]
  constructor
  · intro h; split at h <;> split at h <;> omega
  · intro h; split <;> split <;> omega
abbrev gotBlock (g : Need) : Obj := .cells #[.int .i64 0, .int .i64 (-g.reed), .int .i64 (-g.straw), .int .i64 (-g.heather)] 130

set_option maxHeartbeats 1000000 in
set_option maxRecDepth 100000 in
theorem enough_any (A B : Option Addr) (c cb : Nat) (pl : List Plot) (dry : Int) (n : Need) (s : List Int) (w : World) (h : RdPlots w A pl) (h2 : RdInts w B s) (hin : InFields pl s) (hok : ∀ p ∈ pl, plotOk p = true) (hs : s.length ≤ 12) :
    Calls Try.prog 50 #[.agg #[.slice A pl.length c, .int .i64 dry], .agg #[.int .i64 n.reed, .int .i64 n.straw, .int .i64 n.heather], .slice B s.length cb] w fun e w' => e = .returned (.bool (enoughB pl n s)) ∧ Below w.heap.size w w' := by
  have hl1 := h.1.1
  go_enter Try.func50, Try.ntmps50
  go_wp2
  go_loopw [8] (fun i wr => ∃ k : Nat, i = .int .i64 k ∧ k ≤ s.length ∧ w.heap.size + 3 ≤ wr.heap.size ∧ Hid (wr.heap[w.heap.size]? = some (.cells #[.slice A pl.length c, .int .i64 dry] 24 (0, 0))) ∧ Hid (wr.heap[w.heap.size + 1]? = some (.cells #[.int .i64 n.reed, .int .i64 n.straw, .int .i64 n.heather] 26 (0, 0))) ∧
    Hid (wr.heap[w.heap.size + 1 + 1]? = some (gotBlock (gotN pl s k))) ∧ Below w.heap.size w wr) (fun i _ => s.length - (intOf i).toNat)
  case atStart => exact ⟨0, rfl, by omega, by simp, heap_old _ _ _ _ (heap_old _ _ _ _ (heap_new _ _ _ rfl)), heap_old _ _ _ _ (heap_new _ _ _ (by simp)), heap_new _ _ _ (by simp), (((Below.refl _ w).alloc (Nat.le_refl _) _).alloc (by simp) _).alloc (by simp; omega) _⟩
  case round =>
    obtain ⟨k, rfl, hk, hsz, hF, hN, hG, hB⟩ := hrel
    have hg := gotN_in hin hok k hk
    obtain ⟨u1, u2, u3, u4, u5, u6⟩ := hg
    have y1 := cell_of_two hF.out
    obtain ⟨n1, n2, n3⟩ := cells_three hN.out
    obtain ⟨_, m1, m2, m3⟩ := cells_four hG.out
    have z0 : w.heap.size < wr.heap.size := by omega
    have z1 : w.heap.size + 1 < wr.heap.size := by omega
    have z2 : w.heap.size + 1 + 1 < wr.heap.size := by omega
    by_cases hlt : k < s.length
    · obtain ⟨ad, hA, g0⟩ := (h2.below hB).at1 hlt rfl
      subst hA
      obtain ⟨i0, i1⟩ := hin _ (List.getElem_mem hlt)
      obtain ⟨j, hj⟩ : ∃ j : Nat, s[k] = (j : Int) := ⟨s[k].toNat, by omega⟩
      have hjl : j < pl.length := by omega
      obtain ⟨ap, hAp, p0, p1, p2, p3, p4, p5, p6, p7, p8⟩ := (h.1.below hB).at9 hjl rfl
      subst hAp
      have hpk := hok _ (List.getElem_mem hjl)
      obtain ⟨k1, k2, k3, k4, k5, k6, _⟩ := plotOk_bounds hpk
      obtain ⟨kk1, kk2⟩ := prod_bounds k2 k3 k4 (by omega)
      have hstep := gotN_succ pl s k hlt
      rw [subAt, hj, show plotAt pl (j : Int) = pl[j] by unfold plotAt; rw [Int.toNat_natCast, getD_lt _ hjl]] at hstep
      rw [hj] at g0
      have hstep := Lib.hid hstep
      simp only [cropB, Bool.and_eq_true, decide_eq_true_eq] at k1
      have hj := Lib.hid hj
      have hcr : pl[j].crop = 1 ∨ pl[j].crop = 2 ∨ pl[j].crop = 3 := by omega
      clear k1
      have hZ : Below wr.heap.size wr (wr.alloc (.cells #[.string ⟨#[]⟩, .int .i64 0, .int .i64 0, .int .i64 0, .int .i64 0, .int .i64 0, .int .i64 0, .int .i64 0, .int .i64 0] 88)) := (Below.refl _ wr).alloc (Nat.le_refl _) _
      obtain ⟨ad', hA', g0'⟩ := ((h2.below hB).below hZ).at1 hlt rfl
      cases hA'
      obtain ⟨ap', hAp', p0', p1', p2', p3', p4', p5', p6', p7', p8'⟩ := ((h.1.below hB).below hZ).at9 hjl rfl
      cases hAp'
      rw [hj.out] at g0'
      have q1 := cell_of_two (heap_old _ (.cells #[.string ⟨#[]⟩, .int .i64 0, .int .i64 0, .int .i64 0, .int .i64 0, .int .i64 0, .int .i64 0, .int .i64 0, .int .i64 0] 88) _ _ hF.out)
      have hB' := Lib.hid hB
      clear hB hZ
      rcases hcr with hcr | hcr | hcr <;> have hcr' := hcr
      · obtain ⟨_, m1', m2', m3'⟩ := cells_four (heap_old _ (.cells #[.string pl[j].name, .int .i64 1, .int .i64 pl[j].size, .int .i64 pl[j].yield.lo, .int .i64 pl[j].yield.hi, .int .i64 pl[j].rest, .int .i64 pl[j].wet.lo, .int .i64 pl[j].wet.hi, .int .i64 pl[j].cost] 88) _ _ hG.out)
        have fz := frozen_four hG.out 1
        go_wp2
        go_region
        go_wp2
        go_region
        go_wp2
        refine ⟨⟨k + 1, rfl, by omega, ?_, ?_, ?_, ?_, ?_⟩, by simp only [intOf]; omega⟩
        · show _ ≤ ((wr.setCell _ _).alloc _).heap.size
          simp; omega
        · exact heap_old _ _ _ _ ((Below.heap_setCell _ _ _ _ (by show w.heap.size ≠ w.heap.size + 1 + 1; omega)).trans hF.out)
        · exact heap_old _ _ _ _ ((Below.heap_setCell _ _ _ _ (by show w.heap.size + 1 ≠ w.heap.size + 1 + 1; omega)).trans hN.out)
        · refine (heap_old _ _ _ _ (set_cells hG.out (.int .i64 (-(gotN pl s k).reed + pl[j].size * pl[j].yield.lo)))).trans ?_
          rw [hstep.out]
          simp [needSub, hcr', gotBlock, Int.sub_eq_add_neg, Int.neg_add]
        · exact ((hB'.out.setCell (p := ⟨w.heap.size + 1 + 1, 1, none⟩) (by show _ ≤ w.heap.size + 1 + 1; omega) _).alloc (by simp; omega) _).drew.drew
      · obtain ⟨_, m1', m2', m3'⟩ := cells_four (heap_old _ (.cells #[.string pl[j].name, .int .i64 2, .int .i64 pl[j].size, .int .i64 pl[j].yield.lo, .int .i64 pl[j].yield.hi, .int .i64 pl[j].rest, .int .i64 pl[j].wet.lo, .int .i64 pl[j].wet.hi, .int .i64 pl[j].cost] 88) _ _ hG.out)
        have fz := frozen_four hG.out 2
        go_wp2
        go_region
        go_wp2
        go_region
        go_wp2
        refine ⟨⟨k + 1, rfl, by omega, ?_, ?_, ?_, ?_, ?_⟩, by simp only [intOf]; omega⟩
        · show _ ≤ ((wr.setCell _ _).alloc _).heap.size
          simp; omega
        · exact heap_old _ _ _ _ ((Below.heap_setCell _ _ _ _ (by show w.heap.size ≠ w.heap.size + 1 + 1; omega)).trans hF.out)
        · exact heap_old _ _ _ _ ((Below.heap_setCell _ _ _ _ (by show w.heap.size + 1 ≠ w.heap.size + 1 + 1; omega)).trans hN.out)
        · refine (heap_old _ _ _ _ (set_cells hG.out (.int .i64 (-(gotN pl s k).straw + pl[j].size * pl[j].yield.lo)))).trans ?_
          rw [hstep.out]
          simp [needSub, hcr', gotBlock, Int.sub_eq_add_neg, Int.neg_add]
        · exact ((hB'.out.setCell (p := ⟨w.heap.size + 1 + 1, 2, none⟩) (by show _ ≤ w.heap.size + 1 + 1; omega) _).alloc (by simp; omega) _).drew.drew
      · obtain ⟨_, m1', m2', m3'⟩ := cells_four (heap_old _ (.cells #[.string pl[j].name, .int .i64 3, .int .i64 pl[j].size, .int .i64 pl[j].yield.lo, .int .i64 pl[j].yield.hi, .int .i64 pl[j].rest, .int .i64 pl[j].wet.lo, .int .i64 pl[j].wet.hi, .int .i64 pl[j].cost] 88) _ _ hG.out)
        have fz := frozen_four hG.out 3
        go_wp2
        go_region
        go_wp2
        go_region
        go_wp2
        refine ⟨⟨k + 1, rfl, by omega, ?_, ?_, ?_, ?_, ?_⟩, by simp only [intOf]; omega⟩
        · show _ ≤ ((wr.setCell _ _).alloc _).heap.size
          simp; omega
        · exact heap_old _ _ _ _ ((Below.heap_setCell _ _ _ _ (by show w.heap.size ≠ w.heap.size + 1 + 1; omega)).trans hF.out)
        · exact heap_old _ _ _ _ ((Below.heap_setCell _ _ _ _ (by show w.heap.size + 1 ≠ w.heap.size + 1 + 1; omega)).trans hN.out)
        · refine (heap_old _ _ _ _ (set_cells hG.out (.int .i64 (-(gotN pl s k).heather + pl[j].size * pl[j].yield.lo)))).trans ?_
          rw [hstep.out]
          simp [needSub, hcr', gotBlock, Int.sub_eq_add_neg, Int.neg_add]
        · exact ((hB'.out.setCell (p := ⟨w.heap.size + 1 + 1, 3, none⟩) (by show _ ≤ w.heap.size + 1 + 1; omega) _).alloc (by simp; omega) _).drew.drew
    · have hk : k = s.length := by omega
      subst hk
      have hres := Lib.hid (enough_got pl n s)
      clear hk
      obtain ⟨_, m1, m2, m3⟩ := cells_four hG.out
      have hB := Lib.hid hB
      go_wp2
      all_goals refine bodyPost_ret (v := .bool (enoughB pl n s)) ?_ rfl ⟨rfl, hB.out⟩
      all_goals rw [hres.out]
      all_goals clear hB hres hG hN hF
      all_goals simp [results, Try.results50, go_sem]
      all_goals try omega
end Go.Proofs.Ytpgkhlpepckfgaa
end
section
namespace Go.Proofs.Ytpgkhlpepckfgaa
open Go.RowKit Go.Lib

theorem partAt_get {n : Nat} {l : List Portion} {k : Nat} (hk : k < l.length) : partAt n l k = (inB l[k].plot 0 ((n : Int) - 1) && inB l[k].loads 1 100000 && (decide (k = 0) || decide ((l.getD (k - 1) default).plot ≠ l[k].plot))) := by
  unfold partAt; rw [getD_lt _ hk]

set_option maxHeartbeats 2000000 in
set_option maxRecDepth 100000 in
theorem ordered_any (A B : Option Addr) (c cb : Nat) (pl : List Plot) (dry : Int) (l : List Portion) (w : World) (h : RdPlots w A pl) (h2 : RdParts w B l) :
    Calls Try.prog 87 #[.agg #[.slice A pl.length c, .int .i64 dry], .slice B l.length cb] w fun e w' => e = .returned (.bool (properB pl.length l)) ∧ Below w.heap.size w w' := by
  have hl1 := h.1.1
  have hl2 := h2.1
  go_enter Try.func87, Try.ntmps87
  go_wp2
  go_loopw [5] (fun i wr => ∃ k : Nat, i = .int .i64 k ∧ k ≤ l.length ∧ Hid (∀ j, j < k → partAt pl.length l j = true) ∧ w.heap.size < wr.heap.size ∧ Hid (wr.heap[w.heap.size]? = some (.cells #[.slice A pl.length c, .int .i64 dry] 24 (0, 0))) ∧ Hid (Below w.heap.size w wr)) (fun i _ => l.length - (intOf i).toNat)
  case atStart => exact ⟨0, rfl, by omega, (fun j h => absurd h (Nat.not_lt_zero _)), by simp, heap_new _ _ _ rfl, (Below.refl _ w).alloc (Nat.le_refl _) _⟩
  case round =>
    obtain ⟨k, rfl, hk, hall, hsz, hF, hB⟩ := hrel
    have y1 := cell_of_two hF.out
    by_cases hlt : k < l.length
    · obtain ⟨ad, hA, p0, p1⟩ := FlatRow.at2 (FlatRow.below h2 hB.out) hlt rfl
      subst hA
      have hpa := partAt_get (n := pl.length) hlt
      obtain ⟨pp, hpp⟩ : ∃ pp, pp = l[k].plot := ⟨_, rfl⟩
      obtain ⟨ll, hll⟩ : ∃ ll, ll = l[k].loads := ⟨_, rfl⟩
      rw [← hpp] at p0 hpa
      rw [← hll] at p1 hpa
      replace hpp := Lib.hid hpp
      replace hll := Lib.hid hll
      have hq1 : ∀ n, Calls Try.prog 49 #[.int .i64 pp, .int .i64 0, .int .i64 ((pl.length : Int) - 1)] (wr.drewN n) fun e w' => e = .returned (.bool (inB pp 0 ((pl.length : Int) - 1))) ∧ w' = wr.drewN n := fun n => (rin_any _ _ _ _).mono fun _ _ ⟨a, b⟩ => ⟨a, b.symm⟩
      have hq2 : ∀ n, Calls Try.prog 49 #[.int .i64 ll, .int .i64 1, .int .i64 100000] (wr.drewN n) fun e w' => e = .returned (.bool (inB ll 1 100000)) ∧ w' = wr.drewN n := fun n => (rin_any _ _ _ _).mono fun _ _ ⟨a, b⟩ => ⟨a, b.symm⟩
      have hBn : ∀ n, Hid (Below w.heap.size w (wr.drewN n)) := fun n => hB.out.trans (below_drewN_ wr n)
      cases h1 : inB pp 0 ((pl.length : Int) - 1) with
      | false =>
        rw [h1] at hpa hq1
        simp only [Bool.false_and] at hpa
        have hpa := Lib.hid hpa
        go_wp2
        go_big_quiet (first | (go_at_call_of 49 (Value.int IntKind.i64 pp); exact Calls.quiet_of_same (hq1 _)) | (go_at_call 49; exact Calls.quiet_of_same (hq2 _)))
        go_wp2
        refine bodyPost_ret (v := .bool false) (by simp [results, Try.results87, go_sem]) rfl ⟨by rw [properB, allB_stop hlt hpa.out], hBn _⟩
      | true =>
        rw [h1] at hpa hq1
        simp only [Bool.true_and] at hpa
        cases h3 : inB ll 1 100000 with
        | false =>
          rw [h3] at hpa hq2
          simp only [Bool.false_and] at hpa
          have hpa := Lib.hid hpa
          go_wp2
          go_big_quiet (first | (go_at_call_of 49 (Value.int IntKind.i64 pp); exact Calls.quiet_of_same (hq1 _)) | (go_at_call 49; exact Calls.quiet_of_same (hq2 _)))
          go_wp2
          refine bodyPost_ret (v := .bool false) (by simp [results, Try.results87, go_sem]) rfl ⟨by rw [properB, allB_stop hlt hpa.out], hBn _⟩
        | true =>
          rw [h3] at hpa hq2
          simp only [Bool.true_and] at hpa
          by_cases hk0 : k = 0
          · have hpa : Hid (partAt pl.length l k = true) := by unfold Hid; rw [hpa, hk0]; rfl
            have cb3 : decide ((0 : Int) < (k : Int)) = false := decide_eq_false (by omega)
            have cb3' : decide (0 < k) = false := decide_eq_false (by omega)
            clear hk0
            go_wp2
            go_big_quiet (first | (go_at_call_of 49 (Value.int IntKind.i64 pp); exact Calls.quiet_of_same (hq1 _)) | (go_at_call 49; exact Calls.quiet_of_same (hq2 _)))
            go_wp2
            exact ⟨⟨k + 1, by go_num, by omega, succ_all hall.out hpa.out, hsz, hF, hBn _⟩, by simp only [intOf]; omega⟩
          · obtain ⟨k', rfl⟩ : ∃ k', k = k' + 1 := ⟨k - 1, by omega⟩
            have hlt' : k' < l.length := by omega
            obtain ⟨ad', hA', r0, r1⟩ := FlatRow.at2 (FlatRow.below h2 hB.out) hlt' rfl
            cases hA'
            rw [Nat.add_sub_cancel, getD_lt _ hlt'] at hpa
            simp only [Nat.succ_ne_zero, decide_false, Bool.false_or] at hpa
            have cb3 : decide ((0 : Int) < ((k' + 1 : Nat) : Int)) = true := decide_eq_true (by omega)
            have cb3' : decide ((0 : Int) < ((k' : Nat) : Int) + 1) = true := decide_eq_true (by omega)
            by_cases he : l[k'].plot = pp
            · have hpa : Hid (partAt pl.length l (k' + 1) = false) := by unfold Hid; rw [hpa]; simp [he]
              have cb4 : (l[k'].plot == pp) = true := by rw [he]; simp
              go_wp2
              go_big_quiet (first | (go_at_call_of 49 (Value.int IntKind.i64 pp); exact Calls.quiet_of_same (hq1 _)) | (go_at_call 49; exact Calls.quiet_of_same (hq2 _)))
              go_wp2
              refine bodyPost_ret (v := .bool false) (by simp [results, Try.results87, go_sem]) rfl ⟨by rw [properB, allB_stop hlt hpa.out], hBn _⟩
            · have hpa : Hid (partAt pl.length l (k' + 1) = true) := by unfold Hid; rw [hpa]; simp [he]
              have cb4 : (l[k'].plot == pp) = false := by simpa using he
              go_wp2
              go_big_quiet (first | (go_at_call_of 49 (Value.int IntKind.i64 pp); exact Calls.quiet_of_same (hq1 _)) | (go_at_call 49; exact Calls.quiet_of_same (hq2 _)))
              go_wp2
              exact ⟨⟨k' + 1 + 1, by go_num, by omega, succ_all hall.out hpa.out, hsz, hF, hBn _⟩, by simp only [intOf]; omega⟩
    · have hke : k = l.length := by omega
      subst hke
      go_wp2
      refine bodyPost_ret (v := .bool true) (by simp [results, Try.results87, go_sem]) rfl ⟨by rw [properB, allB_end hall.out], hB.out⟩
end Go.Proofs.Ytpgkhlpepckfgaa
end
section
namespace Go.Proofs.Ytpgkhlpepckfgaa
open Go.RowKit Go.Lib

def lastAt (l : List Portion) (k : Nat) : Int := if k = 0 then -1 else (l.getD (k - 1) default).plot
theorem lastAt_succ {l : List Portion} {k : Nat} (h : k < l.length) : lastAt l (k + 1) = l[k].plot := by
  unfold lastAt; rw [if_neg (by omega), Nat.add_sub_cancel, getD_lt _ h]
theorem partAt_last {n : Nat} {l : List Portion} {k : Nat} (hk : k < l.length) : partAt n l k = (decide (l[k].plot ≠ lastAt l k) && inB l[k].plot 0 ((n : Int) - 1) && inB l[k].loads 1 100000) := by
  rw [partAt_get hk]
  unfold lastAt
  by_cases h0 : k = 0
  · subst h0
    rw [if_pos rfl]
    by_cases h1 : l[0].plot = -1
    · simp [h1, inB]
    · simp [h1]
  · rw [if_neg h0]
    rw [Bool.eq_iff_iff]
    simp only [Bool.and_eq_true, Bool.or_eq_true, decide_eq_true_eq]
    constructor
    · rintro ⟨⟨a, b⟩, c⟩
      exact ⟨⟨fun e => by rcases c with c | c; exact h0 c; exact c e.symm, a⟩, b⟩
    · rintro ⟨⟨a, b⟩, c⟩
      exact ⟨⟨b, c⟩, .inr fun e => a e.symm⟩

set_option maxHeartbeats 2000000 in
set_option maxRecDepth 100000 in
theorem proper_any (A B : Option Addr) (c cb : Nat) (pl : List Plot) (dry : Int) (l : List Portion) (w : World) (h : RdPlots w A pl) (h2 : RdParts w B l) :
    Calls Try.prog 60 #[.agg #[.slice A pl.length c, .int .i64 dry], .slice B l.length cb] w fun e w' => e = .returned (.bool (properB pl.length l)) ∧ Below w.heap.size w w' := by
  have hl1 := h.1.1
  have hl2 := h2.1
  go_enter Try.func60, Try.ntmps60
  go_wp2
  go_loopw [5, 10] (fun v i wr => ∃ k : Nat, i = .int .i64 k ∧ v = .int .i64 (lastAt l k) ∧ k ≤ l.length ∧ Hid (∀ j, j < k → partAt pl.length l j = true) ∧ w.heap.size < wr.heap.size ∧ Hid (wr.heap[w.heap.size]? = some (.cells #[.slice A pl.length c, .int .i64 dry] 24 (0, 0))) ∧ Hid (Below w.heap.size w wr)) (fun _ i _ => l.length - (intOf i).toNat)
  case atStart => exact ⟨0, rfl, rfl, by omega, (fun j h => absurd h (Nat.not_lt_zero _)), by simp, heap_new _ _ _ rfl, (Below.refl _ w).alloc (Nat.le_refl _) _⟩
  case round =>
    obtain ⟨k, rfl, rfl, hk, hall, hsz, hF, hB⟩ := hrel
    have y1 := cell_of_two hF.out
    by_cases hlt : k < l.length
    · obtain ⟨ad, hA, p0, p1⟩ := FlatRow.at2 (FlatRow.below h2 hB.out) hlt rfl
      subst hA
      have hpa := partAt_last (n := pl.length) hlt
      have hls := lastAt_succ hlt
      obtain ⟨pp, hpp⟩ : ∃ pp, pp = l[k].plot := ⟨_, rfl⟩
      obtain ⟨ll, hll⟩ : ∃ ll, ll = l[k].loads := ⟨_, rfl⟩
      rw [← hpp] at p0 hpa hls
      rw [← hll] at p1 hpa
      replace hpp := Lib.hid hpp
      replace hll := Lib.hid hll
      replace hls := Lib.hid hls
      have hBx : ∀ o : Obj, Hid (Below w.heap.size w (wr.alloc o)) := fun o => hB.out.alloc (Nat.le_of_lt hsz) o
      have hFx : ∀ o : Obj, Hid ((wr.alloc o).heap[w.heap.size]? = some (.cells #[.slice A pl.length c, .int .i64 dry] 24 (0, 0))) := fun o => heap_old _ _ _ _ hF.out
      generalize hlv : lastAt l k = lv at hpa
      cases hpt : partAt pl.length l k with
      | true =>
        rw [hpt] at hpa
        have hpa' := hpa.symm
        simp only [Bool.and_eq_true, decide_eq_true_eq] at hpa'
        obtain ⟨⟨c1, c2⟩, c3⟩ := hpa'
        clear hpa
        have cb : (pp == lv) = false := by simpa using c1
        have hpt := Lib.hid hpt
        have hall2 := Lib.hid (succ_all hall.out hpt.out)
        go_wp2_with (go_at_call 43; refine (in_any _ _ _ _).mono ?_; rintro e w' ⟨rfl, rfl⟩)
        exact ⟨⟨k + 1, by go_num, by rw [hls.out], by omega, hall2, by rw [World.size_alloc]; omega, hFx _, hBx _⟩, by simp only [intOf]; omega⟩
      | false =>
        rw [hpt] at hpa
        have hpt := Lib.hid hpt
        by_cases c1 : pp = lv
        · have cb : (pp == lv) = true := by simpa using c1
          replace c1 := Lib.hid c1
          clear hpa
          go_wp2_with (go_at_call 43; refine (in_any _ _ _ _).mono ?_; rintro e w' ⟨rfl, rfl⟩)
          refine bodyPost_ret (v := .bool false) (by simp [results, Try.results60, go_sem]) rfl ⟨by rw [properB, allB_stop hlt hpt.out], hBx _⟩
        · have cb : (pp == lv) = false := by simpa using c1
          have hpa' : (inB pp 0 ((pl.length : Int) - 1) && inB ll 1 100000) = false := by simpa [c1] using hpa.symm
          clear hpa
          cases c2 : inB pp 0 ((pl.length : Int) - 1)
          · go_wp2_with (go_at_call 43; refine (in_any _ _ _ _).mono ?_; rintro e w' ⟨rfl, rfl⟩)
            refine bodyPost_ret (v := .bool false) (by simp [results, Try.results60, go_sem]) rfl ⟨by rw [properB, allB_stop hlt hpt.out], hBx _⟩
          · rw [c2, Bool.true_and] at hpa'
            go_wp2_with (go_at_call 43; refine (in_any _ _ _ _).mono ?_; rintro e w' ⟨rfl, rfl⟩)
            refine bodyPost_ret (v := .bool false) (by simp [results, Try.results60, go_sem]) rfl ⟨by rw [properB, allB_stop hlt hpt.out], hBx _⟩
    · have hke : k = l.length := by omega
      subst hke
      go_wp2
      refine bodyPost_ret (v := .bool true) (by simp [results, Try.results60, go_sem]) rfl ⟨by rw [properB, allB_end hall.out], hB.out⟩
end Go.Proofs.Ytpgkhlpepckfgaa
end
section
namespace Go.Proofs.Ytpgkhlpepckfgaa
open Go.RowKit Go.Lib

def cntRow (n : Nat) (f : Nat → Int) : Array Value := ((List.range n).map fun i => Value.int .i64 (f i)).toArray
theorem cntRow_get {n : Nat} {f : Nat → Int} {i : Nat} (h : i < n) : (cntRow n f)[i]? = some (.int .i64 (f i)) := by simp [cntRow, h]
theorem cntRow_set {n : Nat} {f g : Nat → Int} {i : Nat} (h : i < n) (ho : ∀ j, j ≠ i → g j = f j) : (cntRow n f).setIfInBounds i (.int .i64 (g i)) = cntRow n g := by
  apply Array.ext_getElem?
  intro j
  rw [Array.getElem?_setIfInBounds]
  by_cases hj : i = j
  · subst hj
    rw [if_pos rfl, if_pos (by simpa [cntRow] using h), cntRow_get h]
  · rw [if_neg hj]
    by_cases hjn : j < n
    · rw [cntRow_get hjn, cntRow_get hjn, ho j (fun e => hj e.symm)]
    · simp [cntRow, hjn]
theorem cell_cnt {w : World} {g n : Nat} {f : Nat → Int} (h : w.heap[g]? = some (.cells (cntRow n f) 3 (0, 0))) {i : Nat} (hi : i < n) : w.cell? ⟨g, i, none⟩ = some (.int .i64 (f i)) := by
  simp only [World.cell?, h, cntRow_get hi]
  rfl

set_option maxHeartbeats 2000000 in
set_option maxRecDepth 100000 in
theorem count_any (w0 w : World) (g cap n : Nat) (f : Nat → Int) (B : Option Addr) (cb : Nat) (l : List Portion) (h : RdParts w0 B l) (hb : Below w0.heap.size w0 w) (hg : w0.heap.size ≤ g) (hgs : g < w.heap.size)
    (hrow : w.heap[g]? = some (.cells (cntRow n f) 3 (0, 0))) (hm : Mild l) (hf : ∀ i, 0 ≤ f i ∧ f i ≤ 1000000000000000) (hin : ∀ p ∈ l, 0 ≤ p.plot ∧ p.plot < (n : Int)) (hn : n ≤ 1000000) (hnc : n ≤ cap) :
    Calls Try.prog 61 #[.slice (some ⟨g, 0, none⟩) n cap, .slice B l.length cb] w fun e w' => e = .returned (.tuple #[]) ∧ w'.heap[g]? = some (.cells (cntRow n fun i => f i + ofL l i) 3 (0, 0)) ∧ Below w0.heap.size w0 w' ∧ w.heap.size ≤ w'.heap.size ∧ ∀ k, k < w.heap.size → k ≠ g → w'.heap[k]? = w.heap[k]? := by
  have hl := h.1
  have hlm := hm.1
  have hstart : Hid (w.heap[g]? = some (.cells (cntRow n fun i => f i + ofL (l.take 0) i) 3 (0, 0))) := by
    have e : (fun i : Nat => f i + ofL (l.take 0) i) = f := funext fun i => by simp [ofL]
    unfold Hid; rw [e]; exact hrow
  go_enter Try.func61, Try.ntmps61
  go_wp2
  go_loopw [8] (fun i wr => ∃ k : Nat, i = .int .i64 k ∧ k ≤ l.length ∧ w.heap.size ≤ wr.heap.size ∧ Hid (wr.heap[g]? = some (.cells (cntRow n fun i => f i + ofL (l.take k) i) 3 (0, 0))) ∧ Hid (Below w0.heap.size w0 wr) ∧ Hid (∀ k, k < w.heap.size → k ≠ g → wr.heap[k]? = w.heap[k]?)) (fun i _ => l.length - (intOf i).toNat)
  case atStart => exact ⟨0, rfl, by omega, Nat.le_refl _, hstart, hb, fun _ _ _ => rfl⟩
  case round =>
    obtain ⟨k, rfl, hk, hsz, hR, hB, hK⟩ := hrel
    by_cases hlt : k < l.length
    · obtain ⟨ad, hA, p0, p1⟩ := FlatRow.at2 (FlatRow.below h hB.out) hlt rfl
      subst hA
      obtain ⟨i0, i1⟩ := hin _ (List.getElem_mem hlt)
      obtain ⟨j, hj⟩ : ∃ j : Nat, l[k].plot = (j : Int) := ⟨l[k].plot.toNat, by omega⟩
      have hjn : j < n := by omega
      obtain ⟨q1, q2⟩ := hm.2 _ (List.getElem_mem hlt)
      have hstep : ∀ i : Nat, ofL (l.take (k + 1)) (i : Int) = ofL (l.take k) i + if l[k].plot = (i : Int) then l[k].loads else 0 := fun i => ofL_take l i k hlt
      have hstep := Lib.hid hstep
      obtain ⟨ll, hll⟩ : ∃ ll, ll = l[k].loads := ⟨_, rfl⟩
      rw [hj] at p0
      rw [← hll] at p1 q1 q2
      replace hll := Lib.hid hll
      replace hj := Lib.hid hj
      obtain ⟨t1, t2⟩ := hm.take k
      obtain ⟨b1, b2⟩ := ofL_bounds (j : Int) t1
      obtain ⟨f1, f2⟩ := hf j
      have hgw : g < wr.heap.size := by omega
      have c0 : (wr.alloc (.cells #[.int .i64 j, .int .i64 ll] 91)).cell? ⟨g, j, none⟩ = some (.int .i64 (f j + ofL (l.take k) j)) := cell_cnt (heap_old _ _ _ _ hR.out) hjn
      have c1 : wr.cell? ⟨g, j, none⟩ = some (.int .i64 (f j + ofL (l.take k) j)) := cell_cnt hR.out hjn
      have fz : wr.frozen? ⟨g, j, none⟩ = false := frozen_four hR.out j
      have c2 : wr.cell? ((⟨g, 0, none⟩ : Addr).add j) = some (.int .i64 (f j + ofL (l.take k) j)) := by rw [lit_add]; exact c1
      go_wp2
      go_region
      go_wp2
      refine ⟨⟨k + 1, by go_num, by omega, by show _ ≤ ((wr.setCell _ _).alloc _).heap.size; simp; omega, ?_, ?_, ?_⟩, by simp only [intOf]; omega⟩
      · refine (heap_old _ _ _ _ (set_cells hR.out _)).trans ?_
        have e : f j + ofL (l.take k) j + ll = (fun i : Nat => f i + ofL (l.take (k + 1)) i) j := by
          dsimp only; rw [hstep.out j, if_pos hj.out, hll.out, Int.add_assoc]
        rw [e]
        have hset := cntRow_set (f := fun i : Nat => f i + ofL (l.take k) i) (g := fun i : Nat => f i + ofL (l.take (k + 1)) i) hjn (fun i hi => by
          rw [hstep.out i, if_neg (by rw [hj.out]; omega), Int.add_zero])
        exact congrArg (fun c => some (Obj.cells c 3 (0, 0))) hset
      · exact ((hB.out.setCell (p := ⟨g, j, none⟩) hg _).alloc (by simp; omega) _).drew
      · exact fun k2 h1 h2 => (((Below.refl _ (wr.setCell ⟨g, j, none⟩ _)).alloc (Nat.le_refl _) _).block k2 (by simp; omega)).trans ((Below.heap_setCell _ _ _ _ h2).trans (hK.out k2 h1 h2))
    · have hke : k = l.length := by omega
      subst hke
      go_wp2
      go_end0
      have hR' := hR.out
      simp only [List.take_length] at hR'
      exact ⟨rfl, hR', hB.out, hsz, hK.out⟩
end Go.Proofs.Ytpgkhlpepckfgaa
end
section
namespace Go.Proofs.Ytpgkhlpepckfgaa
open Go.RowKit Go.Lib Go.Maps

def fen : Plot := ⟨⟨#[102, 101, 110]⟩, 1, 4, ⟨10, 12⟩, 2, ⟨200, 300⟩, 50⟩
def hill : Plot := ⟨⟨#[104, 105, 108, 108]⟩, 2, 2, ⟨5, 9⟩, 1, ⟨100, 140⟩, 20⟩

set_option maxHeartbeats 1000000 in
theorem farm_any (w : World) : Calls Try.prog 37 #[] w fun e w' => ∃ A c, e = .returned (.agg #[.slice A 2 c, .int .i64 150]) ∧ RdPlots w' A [fen, hill] ∧ Below w.heap.size w w' := by
  go_enter Try.func37, Try.ntmps37
  go_wp2
  refine bodyPost_ret (v := .agg #[.slice (some ⟨w.heap.size + 1, 0, none⟩) 2 2, .int .i64 150]) (by simp [results, Try.results37, go_sem]) rfl ⟨_, 2, rfl, ⟨flatRow_block (enc := encPlot) (sz := 9) (l := [fen, hill]) (t := 88) (fun _ => rfl) (heap_new _ _ _ (World.size_alloc _ _).symm) (by decide), fun p hp => ?_⟩, ((Below.refl _ w).alloc (Nat.le_refl _) _).alloc (by simp) _⟩
  simp only [List.mem_cons, List.not_mem_nil, or_false] at hp
  rcases hp with rfl | rfl <;> decide
theorem choose_example : (chooseP [fen, hill] 150 ⟨30, 10, 0⟩).1.found = true ∧ (chooseP [fen, hill] 150 ⟨30, 10, 0⟩).1.cost = 70 ∧ (chooseP [fen, hill] 150 ⟨30, 10, 0⟩).1.choice = [0, 1] ∧ (chooseP [fen, hill] 150 ⟨30, 10, 0⟩).2 = 0 := by decide +kernel

theorem choose_lives (A : Option Addr) (c : Nat) (w : World) (h : RdPlots w A [fen, hill]) : Calls Try.prog 18 #[.agg #[.slice A 2 c, .int .i64 150], .agg #[.int .i64 30, .int .i64 10, .int .i64 0]] w fun e w' =>
    ∃ A' c', e = .returned (.tuple #[.slice A' 2 c', .int .i64 70, .bool true, .int .i64 0]) ∧ RdInts w' A' [0, 1] ∧ Below w.heap.size w w' :=
  (choose_any A c [fen, hill] 150 ⟨30, 10, 0⟩ w h).mono (by
    obtain ⟨h1, h2, h3, h4⟩ := choose_example
    rintro e w' ⟨A', c', rfl, hr, hb⟩
    rw [h3] at hr ⊢
    rw [h1, h2, h4]
    exact ⟨A', c', rfl, hr, hb⟩)

set_option maxHeartbeats 1000000 in
set_option maxRecDepth 100000 in
theorem lives_any (w : World) : Calls Try.prog 17 #[] w fun e w' => e = .returned (.bool true) ∧ Below w.heap.size w w' := by
  go_enter Try.func17, Try.ntmps17
  go_wp2_with (first | (go_at_call 37; refine (farm_any _).mono ?_; rintro e w1 ⟨A, c, rfl, hr, hb1⟩) | (go_at_call 18; refine (choose_lives A c _ hr).mono ?_; rintro e w2 ⟨A2, c2, rfl, hr2, hb2⟩; obtain ⟨ad, rfl, g0⟩ := hr2.at1 (i := 0) (by decide) rfl; obtain ⟨ad', e', g1⟩ := hr2.at1 (i := 1) (by decide) rfl; cases e'; have g0 : w2.cell? ad = some (.int .i64 0) := g0; have g1' : w2.cell? ⟨ad.block, ad.off + 1, none⟩ = some (.int .i64 1) := g1))
  go_ret
  exact ⟨rfl, hb1.trans (hb2.mono hb1.size)⟩
end Go.Proofs.Ytpgkhlpepckfgaa
end
