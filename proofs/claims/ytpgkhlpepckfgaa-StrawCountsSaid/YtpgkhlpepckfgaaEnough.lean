/-
  The specification's enough, walked.
-/
import Derived.Test.YtpgkhlpepckfgaaRInts
import Derived.Test.YtpgkhlpepckfgaaChoose
import Derived.RegionTactic
import Derived.BigRegion
import Derived.ChangeAlike
import Derived.Outline
namespace Go.Proofs.Ytpgkhlpepckfgaa
open Go.RowKit Go.Lib

/-- The numbers are those of fields. -/
def InFields (pl : List Plot) (s : List Int) : Prop := ∀ i ∈ s, 0 ≤ i ∧ i < (pl.length : Int)

def gotN (pl : List Plot) (s : List Int) (k : Nat) : Need := needAfter pl ⟨0, 0, 0⟩ (s.take k)
theorem cells_four {w : World} {b : Nat} {x y z v : Value} {t : TypeId} (h : w.heap[b]? = some (.cells #[x, y, z, v] t (0, 0))) : w.cell? ⟨b, 0, none⟩ = some x ∧ w.cell? ⟨b, 1, none⟩ = some y ∧ w.cell? ⟨b, 2, none⟩ = some z ∧ w.cell? ⟨b, 3, none⟩ = some v := by
  refine ⟨?_, ?_, ?_, ?_⟩ <;> simp [World.cell?, h]
theorem frozen_four {w : World} {b : Nat} {cs : Array Value} {t : TypeId} (h : w.heap[b]? = some (.cells cs t (0, 0))) (o : Nat) : w.frozen? ⟨b, o, none⟩ = false := by simp [World.frozen?, h]
theorem set_cells {w : World} {b o : Nat} {cs : Array Value} {t : TypeId} (h : w.heap[b]? = some (.cells cs t (0, 0))) (u : Value) : (w.setCell ⟨b, o, none⟩ u).heap[b]? = some (.cells (cs.setIfInBounds o u) t (0, 0)) := by
  simp only [World.setCell, Array.getElem?_modify, h]
  rfl
theorem gotN_succ (pl : List Plot) (s : List Int) (k : Nat) (h : k < s.length) : gotN pl s (k + 1) = subAt pl (gotN pl s k) s[k] := by
  unfold gotN
  rw [List.take_succ_eq_append_getElem h, needAfter_snoc]
theorem needIn_zero : NeedIn ⟨0, 0, 0⟩ 0 := by unfold NeedIn; simp
theorem plotAt_ok {pl : List Plot} (hok : ∀ p ∈ pl, plotOk p = true) {i : Int} (h0 : 0 ≤ i) (h1 : i < (pl.length : Int)) : plotOk (plotAt pl i) = true := by
  unfold plotAt
  have : i.toNat < pl.length := by omega
  rw [getD_lt _ this]
  exact hok _ (List.getElem_mem this)
theorem gotN_in {pl : List Plot} {s : List Int} (hin : InFields pl s) (hok : ∀ p ∈ pl, plotOk p = true) : ∀ k, k ≤ s.length → NeedIn (gotN pl s k) (100000 * k)
  | 0, _ => by simpa [gotN, needAfter] using needIn_zero
  | k + 1, hk => by
    rw [gotN_succ pl s k (by omega), subAt]
    obtain ⟨h0, h1⟩ := hin _ (List.getElem_mem (show k < s.length by omega))
    have hp := plotAt_ok hok h0 h1
    obtain ⟨_, k2, k3, k4, k5, k6, _⟩ := plotOk_bounds hp
    have kk := prod_bounds k2 k3 k4 (by omega)
    exact ((gotN_in hin hok k (by omega)).sub _ _ kk.1).mono (by omega)
/-- What is got and what is still wanted go together. -/
theorem needAfter_shift (pl : List Plot) (n : Need) : ∀ (s : List Int) (m : Need), (needAfter pl ⟨n.reed + m.reed, n.straw + m.straw, n.heather + m.heather⟩ s) = ⟨n.reed + (needAfter pl m s).reed, n.straw + (needAfter pl m s).straw, n.heather + (needAfter pl m s).heather⟩
  | [], m => rfl
  | i :: s, m => by
    have key : subAt pl ⟨n.reed + m.reed, n.straw + m.straw, n.heather + m.heather⟩ i = ⟨n.reed + (subAt pl m i).reed, n.straw + (subAt pl m i).straw, n.heather + (subAt pl m i).heather⟩ := by
      unfold subAt needSub
      split
      · simp; omega
      · split
        · simp; omega
        · simp; omega
    have := needAfter_shift pl n s (subAt pl m i)
    simp only [needAfter, List.foldl_cons] at this ⊢
    rw [key]; exact this
theorem enough_got (pl : List Plot) (n : Need) (s : List Int) : enoughB pl n s = (decide (n.reed ≤ -(gotN pl s s.length).reed) && decide (n.straw ≤ -(gotN pl s s.length).straw) && decide (n.heather ≤ -(gotN pl s s.length).heather)) := by
  have h := needAfter_shift pl n s ⟨0, 0, 0⟩
  simp only [Int.add_zero] at h
  unfold enoughB gotN
  rw [List.take_length]
  have h' : needAfter pl n s = ⟨n.reed + (needAfter pl ⟨0, 0, 0⟩ s).reed, n.straw + (needAfter pl ⟨0, 0, 0⟩ s).straw, n.heather + (needAfter pl ⟨0, 0, 0⟩ s).heather⟩ := h
  rw [h', Bool.eq_iff_iff]
  simp only [needMax, decide_eq_true_eq, Bool.and_eq_true]
  constructor
  · intro h; split at h <;> split at h <;> omega
  · intro h; split <;> split <;> omega
abbrev gotBlock (g : Need) : Obj := .cells #[.int .i64 0, .int .i64 (-g.reed), .int .i64 (-g.straw), .int .i64 (-g.heather)] 130

set_option maxHeartbeats 1000000 in
set_option maxRecDepth 100000 in
theorem enough_any (A B : Option Addr) (c cb : Nat) (pl : List Plot) (dry : Int) (n : Need) (s : List Int) (w : World) (h : RdPlots w A pl) (h2 : RdInts w B s) (hin : InFields pl s) (hok : ∀ p ∈ pl, plotOk p = true) (hs : s.length ≤ 12) :
    Calls Try.prog 50 #[.agg #[.slice A pl.length c, .int .i64 dry], .agg #[.int .i64 n.reed, .int .i64 n.straw, .int .i64 n.heather], .slice B s.length cb] w fun e w' => e = .returned (.bool (enoughB pl n s)) ∧ Below w.heap.size w w' := by
  have hl1 := h.1.1
  go_enter Try.func50, Try.ntmps50
  go_wp2
  go_loopw [8] (fun i wr => ∃ k : Nat, i = .int .i64 k ∧ k ≤ s.length ∧ w.heap.size + 3 ≤ wr.heap.size ∧ Hid (wr.heap[w.heap.size]? = some (.cells #[.slice A pl.length c, .int .i64 dry] 24 (0, 0))) ∧ Hid (wr.heap[w.heap.size + 1]? = some (.cells #[.int .i64 n.reed, .int .i64 n.straw, .int .i64 n.heather] 26 (0, 0))) ∧
    Hid (wr.heap[w.heap.size + 1 + 1]? = some (gotBlock (gotN pl s k))) ∧ Below w.heap.size w wr) (fun i _ => s.length - (intOf i).toNat)
  case atStart => exact ⟨0, rfl, by omega, by simp, heap_old _ _ _ _ (heap_old _ _ _ _ (heap_new _ _ _ rfl)), heap_old _ _ _ _ (heap_new _ _ _ (by simp)), heap_new _ _ _ (by simp), (((Below.refl _ w).alloc (Nat.le_refl _) _).alloc (by simp) _).alloc (by simp; omega) _⟩
  case round =>
    obtain ⟨k, rfl, hk, hsz, hF, hN, hG, hB⟩ := hrel
    have hg := gotN_in hin hok k hk
    obtain ⟨u1, u2, u3, u4, u5, u6⟩ := hg
    have y1 := cell_of_two hF.out
    obtain ⟨n1, n2, n3⟩ := cells_three hN.out
    obtain ⟨_, m1, m2, m3⟩ := cells_four hG.out
    have z0 : w.heap.size < wr.heap.size := by omega
    have z1 : w.heap.size + 1 < wr.heap.size := by omega
    have z2 : w.heap.size + 1 + 1 < wr.heap.size := by omega
    by_cases hlt : k < s.length
    · obtain ⟨ad, hA, g0⟩ := (h2.below hB).at1 hlt rfl
      subst hA
      obtain ⟨i0, i1⟩ := hin _ (List.getElem_mem hlt)
      obtain ⟨j, hj⟩ : ∃ j : Nat, s[k] = (j : Int) := ⟨s[k].toNat, by omega⟩
      have hjl : j < pl.length := by omega
      obtain ⟨ap, hAp, p0, p1, p2, p3, p4, p5, p6, p7, p8⟩ := (h.1.below hB).at9 hjl rfl
      subst hAp
      have hpk := hok _ (List.getElem_mem hjl)
      obtain ⟨k1, k2, k3, k4, k5, k6, _⟩ := plotOk_bounds hpk
      obtain ⟨kk1, kk2⟩ := prod_bounds k2 k3 k4 (by omega)
      have hstep := gotN_succ pl s k hlt
      rw [subAt, hj, show plotAt pl (j : Int) = pl[j] by unfold plotAt; rw [Int.toNat_natCast, getD_lt _ hjl]] at hstep
      rw [hj] at g0
      have hstep := Lib.hid hstep
      simp only [cropB, Bool.and_eq_true, decide_eq_true_eq] at k1
      have hj := Lib.hid hj
      have hcr : pl[j].crop = 1 ∨ pl[j].crop = 2 ∨ pl[j].crop = 3 := by omega
      clear k1
      have hZ : Below wr.heap.size wr (wr.alloc (.cells #[.string ⟨#[]⟩, .int .i64 0, .int .i64 0, .int .i64 0, .int .i64 0, .int .i64 0, .int .i64 0, .int .i64 0, .int .i64 0] 88)) := (Below.refl _ wr).alloc (Nat.le_refl _) _
      obtain ⟨ad', hA', g0'⟩ := ((h2.below hB).below hZ).at1 hlt rfl
      cases hA'
      obtain ⟨ap', hAp', p0', p1', p2', p3', p4', p5', p6', p7', p8'⟩ := ((h.1.below hB).below hZ).at9 hjl rfl
      cases hAp'
      rw [hj.out] at g0'
      have q1 := cell_of_two (heap_old _ (.cells #[.string ⟨#[]⟩, .int .i64 0, .int .i64 0, .int .i64 0, .int .i64 0, .int .i64 0, .int .i64 0, .int .i64 0, .int .i64 0] 88) _ _ hF.out)
      have hB' := Lib.hid hB
      clear hB hZ
      rcases hcr with hcr | hcr | hcr <;> have hcr' := hcr
      · obtain ⟨_, m1', m2', m3'⟩ := cells_four (heap_old _ (.cells #[.string pl[j].name, .int .i64 1, .int .i64 pl[j].size, .int .i64 pl[j].yield.lo, .int .i64 pl[j].yield.hi, .int .i64 pl[j].rest, .int .i64 pl[j].wet.lo, .int .i64 pl[j].wet.hi, .int .i64 pl[j].cost] 88) _ _ hG.out)
        have fz := frozen_four hG.out 1
        go_wp2
        go_region
        go_wp2
        go_region
        go_wp2
        refine ⟨⟨k + 1, rfl, by omega, ?_, ?_, ?_, ?_, ?_⟩, by simp only [intOf]; omega⟩
        · show _ ≤ ((wr.setCell _ _).alloc _).heap.size
          simp; omega
        · exact heap_old _ _ _ _ ((Below.heap_setCell _ _ _ _ (by show w.heap.size ≠ w.heap.size + 1 + 1; omega)).trans hF.out)
        · exact heap_old _ _ _ _ ((Below.heap_setCell _ _ _ _ (by show w.heap.size + 1 ≠ w.heap.size + 1 + 1; omega)).trans hN.out)
        · refine (heap_old _ _ _ _ (set_cells hG.out (.int .i64 (-(gotN pl s k).reed + pl[j].size * pl[j].yield.lo)))).trans ?_
          rw [hstep.out]
          simp [needSub, hcr', gotBlock, Int.sub_eq_add_neg, Int.neg_add]
        · exact ((hB'.out.setCell (p := ⟨w.heap.size + 1 + 1, 1, none⟩) (by show _ ≤ w.heap.size + 1 + 1; omega) _).alloc (by simp; omega) _).drew.drew
      · obtain ⟨_, m1', m2', m3'⟩ := cells_four (heap_old _ (.cells #[.string pl[j].name, .int .i64 2, .int .i64 pl[j].size, .int .i64 pl[j].yield.lo, .int .i64 pl[j].yield.hi, .int .i64 pl[j].rest, .int .i64 pl[j].wet.lo, .int .i64 pl[j].wet.hi, .int .i64 pl[j].cost] 88) _ _ hG.out)
        have fz := frozen_four hG.out 2
        go_wp2
        go_region
        go_wp2
        go_region
        go_wp2
        refine ⟨⟨k + 1, rfl, by omega, ?_, ?_, ?_, ?_, ?_⟩, by simp only [intOf]; omega⟩
        · show _ ≤ ((wr.setCell _ _).alloc _).heap.size
          simp; omega
        · exact heap_old _ _ _ _ ((Below.heap_setCell _ _ _ _ (by show w.heap.size ≠ w.heap.size + 1 + 1; omega)).trans hF.out)
        · exact heap_old _ _ _ _ ((Below.heap_setCell _ _ _ _ (by show w.heap.size + 1 ≠ w.heap.size + 1 + 1; omega)).trans hN.out)
        · refine (heap_old _ _ _ _ (set_cells hG.out (.int .i64 (-(gotN pl s k).straw + pl[j].size * pl[j].yield.lo)))).trans ?_
          rw [hstep.out]
          simp [needSub, hcr', gotBlock, Int.sub_eq_add_neg, Int.neg_add]
        · exact ((hB'.out.setCell (p := ⟨w.heap.size + 1 + 1, 2, none⟩) (by show _ ≤ w.heap.size + 1 + 1; omega) _).alloc (by simp; omega) _).drew.drew
      · obtain ⟨_, m1', m2', m3'⟩ := cells_four (heap_old _ (.cells #[.string pl[j].name, .int .i64 3, .int .i64 pl[j].size, .int .i64 pl[j].yield.lo, .int .i64 pl[j].yield.hi, .int .i64 pl[j].rest, .int .i64 pl[j].wet.lo, .int .i64 pl[j].wet.hi, .int .i64 pl[j].cost] 88) _ _ hG.out)
        have fz := frozen_four hG.out 3
        go_wp2
        go_region
        go_wp2
        go_region
        go_wp2
        refine ⟨⟨k + 1, rfl, by omega, ?_, ?_, ?_, ?_, ?_⟩, by simp only [intOf]; omega⟩
        · show _ ≤ ((wr.setCell _ _).alloc _).heap.size
          simp; omega
        · exact heap_old _ _ _ _ ((Below.heap_setCell _ _ _ _ (by show w.heap.size ≠ w.heap.size + 1 + 1; omega)).trans hF.out)
        · exact heap_old _ _ _ _ ((Below.heap_setCell _ _ _ _ (by show w.heap.size + 1 ≠ w.heap.size + 1 + 1; omega)).trans hN.out)
        · refine (heap_old _ _ _ _ (set_cells hG.out (.int .i64 (-(gotN pl s k).heather + pl[j].size * pl[j].yield.lo)))).trans ?_
          rw [hstep.out]
          simp [needSub, hcr', gotBlock, Int.sub_eq_add_neg, Int.neg_add]
        · exact ((hB'.out.setCell (p := ⟨w.heap.size + 1 + 1, 3, none⟩) (by show _ ≤ w.heap.size + 1 + 1; omega) _).alloc (by simp; omega) _).drew.drew
    · have hk : k = s.length := by omega
      subst hk
      have hres := Lib.hid (enough_got pl n s)
      clear hk
      obtain ⟨_, m1, m2, m3⟩ := cells_four hG.out
      have hB := Lib.hid hB
      go_wp2
      all_goals refine bodyPost_ret (v := .bool (enoughB pl n s)) ?_ rfl ⟨rfl, hB.out⟩
      all_goals rw [hres.out]
      all_goals clear hB hres hG hN hF
      all_goals simp [results, Try.results50, go_sem]
      all_goals try omega
end Go.Proofs.Ytpgkhlpepckfgaa
