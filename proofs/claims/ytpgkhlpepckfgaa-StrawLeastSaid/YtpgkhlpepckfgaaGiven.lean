/-
  What fields cost and whether they give enough: the law's own count, walked.
-/
import Derived.Test.YtpgkhlpepckfgaaRChoose
namespace Go.Proofs.Ytpgkhlpepckfgaa
open Go.RowKit Go.Lib

theorem fields_sorted (n : Nat) : (fields 0 n).Pairwise (· < ·) := by
  rw [fields_range]
  exact List.pairwise_map.2 ((List.pairwise_lt_range (n := n)).imp fun h => by omega)
theorem fields_in (n : Nat) : ∀ i ∈ fields 0 n, 0 ≤ i ∧ i < (n : Int) := fun x hx => by
  simp only [fields_range, List.mem_map, List.mem_range] at hx
  obtain ⟨j, hj, rfl⟩ := hx
  omega
theorem fields_len (n : Nat) : (fields 0 n).length = n := by simp [fields]
theorem sub_in {pl : List Plot} {s : List Int} (h : s.Sublist (fields 0 pl.length)) : InFields pl s := fun i hi => fields_in _ i (h.subset hi)
theorem sub_lt {n : Nat} {s : List Int} (h : s.Sublist (fields 0 n)) {k : Nat} (hk : k + 1 < s.length) : s[k] < s[k + 1] := by
  have := (fields_sorted n).sublist h
  exact (List.pairwise_iff_getElem.1 this) k (k + 1) (by omega) hk (by omega)
theorem costOf_take (pl : List Plot) (s : List Int) (k : Nat) (h : k < s.length) : costOf pl (s.take (k + 1)) = costOf pl (s.take k) + (plotAt pl s[k]).cost := by
  rw [List.take_succ_eq_append_getElem h, costOf_snoc]

theorem wrap_zero {x : Int} (h0 : 0 ≤ x) (h1 : x ≤ 1000000) : wrap64 (0 + x) = 0 + x := by unfold wrap64; omega
set_option maxHeartbeats 4000000 in
set_option maxRecDepth 100000 in
theorem given_any (A B : Option Addr) (c cb : Nat) (pl : List Plot) (dry : Int) (n : Need) (s : List Int) (w : World) (h : RdPlots w A pl) (h2 : RdInts w B s) (hsub : s.Sublist (fields 0 pl.length)) (hok : ∀ p ∈ pl, plotOk p = true) (hs : s.length ≤ 12) :
    Calls Try.prog 21 #[.agg #[.slice A pl.length c, .int .i64 dry], .agg #[.int .i64 n.reed, .int .i64 n.straw, .int .i64 n.heather], .slice B s.length cb] w fun e w' => e = .returned (.tuple #[.int .i64 (costOf pl s), .bool (enoughB pl n s), .bool true]) ∧ Below w.heap.size w w' := by
  have hl1 := h.1.1
  have hin := sub_in hsub
  go_enter Try.func21, Try.ntmps21
  go_wp2
  go_loopw [6, 9, 10, 11, 12] (fun v6 v9 v10 v11 i wr => ∃ k : Nat, i = .int .i64 k ∧ k ≤ s.length ∧ v6 = .int .i64 (costOf pl (s.take k)) ∧ v9 = .int .i64 (-(gotN pl s k).reed) ∧ v10 = .int .i64 (-(gotN pl s k).straw) ∧ v11 = .int .i64 (-(gotN pl s k).heather) ∧ w.heap.size + 2 ≤ wr.heap.size ∧ Hid (wr.heap[w.heap.size]? = some (.cells #[.slice A pl.length c, .int .i64 dry] 24 (0, 0))) ∧ Hid (wr.heap[w.heap.size + 1]? = some (.cells #[.int .i64 n.reed, .int .i64 n.straw, .int .i64 n.heather] 26 (0, 0))) ∧ Hid (Below w.heap.size w wr)) (fun _ _ _ _ i _ => s.length - (intOf i).toNat)
  case atStart => exact ⟨0, rfl, by omega, rfl, rfl, rfl, rfl, by simp, heap_old _ _ _ _ (heap_new _ _ _ rfl), heap_new _ _ _ (by simp), ((Below.refl _ w).alloc (Nat.le_refl _) _).alloc (by simp) _⟩
  case round =>
    obtain ⟨k, rfl, hk, rfl, rfl, rfl, rfl, hsz, hF, hN, hB⟩ := hrel
    have hg := gotN_in hin hok k hk
    obtain ⟨u1, u2, u3, u4, u5, u6⟩ := hg
    have y1 := cell_of_two hF.out
    obtain ⟨n1, n2, n3⟩ := cells_three hN.out
    have z0 : w.heap.size < wr.heap.size := by omega
    have z1 : w.heap.size + 1 < wr.heap.size := by omega
    have hco := cost_bounds hok (s.take k)
    rw [List.length_take] at hco
    obtain ⟨co1, co2⟩ := hco
    by_cases hlt : k < s.length
    · obtain ⟨ad, hA, g0⟩ := (h2.below hB.out).at1 hlt rfl
      subst hA
      obtain ⟨i0, i1⟩ := hin _ (List.getElem_mem hlt)
      obtain ⟨j, hj⟩ : ∃ j : Nat, s[k] = (j : Int) := ⟨s[k].toNat, by omega⟩
      have hjl : j < pl.length := by omega
      obtain ⟨ap, hAp, p0, p1, p2, p3, p4, p5, p6, p7, p8⟩ := (h.1.below hB.out).at9 hjl rfl
      subst hAp
      have hpk := hok _ (List.getElem_mem hjl)
      obtain ⟨k1, k2, k3, k4, k5, k6, _, _, _, _, _, kc1, kc2⟩ := plotOk_bounds hpk
      obtain ⟨kk1, kk2⟩ := prod_bounds k2 k3 k4 (by omega)
      have hpa : plotAt pl (j : Int) = pl[j] := by unfold plotAt; rw [Int.toNat_natCast, getD_lt _ hjl]
      have hstep := gotN_succ pl s k hlt
      rw [subAt, hj, hpa] at hstep
      have hcost := costOf_take pl s k hlt
      rw [hj, hpa] at hcost
      have hstep := Lib.hid hstep
      have hcost := Lib.hid hcost
      rw [hj] at g0
      simp only [cropB, Bool.and_eq_true, decide_eq_true_eq] at k1
      have hcr : pl[j].crop = 1 ∨ pl[j].crop = 2 ∨ pl[j].crop = 3 := by omega
      clear k1
      have hprev : k = 0 ∨ ∃ k' j' : Nat, k = k' + 1 ∧ j' < j ∧ wr.cell? (ad.add k') = some (.int .i64 j') := by
        cases k with
        | zero => exact .inl rfl
        | succ k' =>
          have hlt' : k' < s.length := by omega
          obtain ⟨ad2, hA2, g2⟩ := (h2.below hB.out).at1 hlt' rfl
          cases hA2
          obtain ⟨i0', i1'⟩ := hin _ (List.getElem_mem hlt')
          have hlt2 := sub_lt hsub hlt
          refine .inr ⟨k', s[k'].toNat, rfl, by omega, ?_⟩
          rw [g2, Int.toNat_of_nonneg i0']
      have hj := Lib.hid hj
      have cb1 : decide ((j : Int) < 0) = false := decide_eq_false (by omega)
      have cb2 : decide ((pl.length : Int) ≤ (j : Int)) = false := decide_eq_false (by omega)
      have cb2' : decide (pl.length ≤ j) = false := decide_eq_false (by omega)
      rcases hprev with rfl | ⟨k', j', rfl, hjj, gp⟩
      · have ga : ad.add 0 = ad := by simp [Addr.add]
        rw [ga] at g0
        have cb3 : decide ((0 : Int) < ((0 : Nat) : Int)) = false := rfl
        rcases hcr with hcr | hcr | hcr <;> have hcr' := hcr
        · go_wp2
          go_big_quiet (fail)
          obtain ⟨wx, hwx⟩ : ∃ x, x = wr.drewN nq := ⟨_, rfl⟩
          have hBx : Below wr.heap.size wr wx := hwx ▸ below_drewN_ wr nq
          have hBy : Below wr.heap.size wr (wx.alloc (.cells #[.string ⟨#[]⟩, .int .i64 0, .int .i64 0, .int .i64 0, .int .i64 0, .int .i64 0, .int .i64 0, .int .i64 0, .int .i64 0] 88)) := hBx.alloc hBx.size _
          rw [← hwx]
          clear p0 p1 p2 p3 p4 p5 p6 p7 p8 g0 y1 n1 n2 n3
          obtain ⟨ad1, hA1, g1⟩ := ((h2.below hB.out).below hBx).at1 hlt rfl
          cases hA1
          obtain ⟨ad2, hA2, g2⟩ := ((h2.below hB.out).below hBy).at1 hlt rfl
          cases hA2
          rw [hj.out, ga] at g1 g2
          obtain ⟨ap1, hAp1, p0, p1, p2, p3, p4, p5, p6, p7, p8⟩ := ((h.1.below hB.out).below hBx).at9 hjl rfl
          cases hAp1
          obtain ⟨ap2, hAp2, p0', p1', p2', p3', p4', p5', p6', p7', p8'⟩ := ((h.1.below hB.out).below hBy).at9 hjl rfl
          cases hAp2
          have y1 := cell_of_two ((hBx.block _ z0).trans hF.out)
          have y2 := cell_of_two ((hBy.block _ z0).trans hF.out)
          have hBx := Lib.hid hBx
          clear hBy hwx
          go_wp2
          go_region
          go_wp2
          have hY : ∀ o : Obj, Below wr.heap.size wr (wx.alloc o) := fun o => hBx.out.alloc hBx.out.size o
          have hYs := hBx.out.size
          exact ⟨⟨1, by go_num, by omega, by rw [hcost.out]; exact congrArg _ (wrap_zero kc1 kc2), by rw [hstep.out]; simp [needSub, hcr', Int.sub_eq_add_neg, Int.neg_add], by rw [hstep.out]; simp [needSub, hcr', Int.sub_eq_add_neg, Int.neg_add], by rw [hstep.out]; simp [needSub, hcr', Int.sub_eq_add_neg, Int.neg_add], by show _ ≤ (wx.alloc _).heap.size; rw [World.size_alloc]; omega, ((hY _).block _ z0).trans hF.out, ((hY _).block _ z1).trans hN.out, (hB.out.trans ((hY _).mono (by omega))).drew⟩, by simp only [intOf]; omega⟩
        · go_wp2
          go_big_quiet (fail)
          obtain ⟨wx, hwx⟩ : ∃ x, x = wr.drewN nq := ⟨_, rfl⟩
          have hBx : Below wr.heap.size wr wx := hwx ▸ below_drewN_ wr nq
          have hBy : Below wr.heap.size wr (wx.alloc (.cells #[.string ⟨#[]⟩, .int .i64 0, .int .i64 0, .int .i64 0, .int .i64 0, .int .i64 0, .int .i64 0, .int .i64 0, .int .i64 0] 88)) := hBx.alloc hBx.size _
          rw [← hwx]
          clear p0 p1 p2 p3 p4 p5 p6 p7 p8 g0 y1 n1 n2 n3
          obtain ⟨ad1, hA1, g1⟩ := ((h2.below hB.out).below hBx).at1 hlt rfl
          cases hA1
          obtain ⟨ad2, hA2, g2⟩ := ((h2.below hB.out).below hBy).at1 hlt rfl
          cases hA2
          rw [hj.out, ga] at g1 g2
          obtain ⟨ap1, hAp1, p0, p1, p2, p3, p4, p5, p6, p7, p8⟩ := ((h.1.below hB.out).below hBx).at9 hjl rfl
          cases hAp1
          obtain ⟨ap2, hAp2, p0', p1', p2', p3', p4', p5', p6', p7', p8'⟩ := ((h.1.below hB.out).below hBy).at9 hjl rfl
          cases hAp2
          have y1 := cell_of_two ((hBx.block _ z0).trans hF.out)
          have y2 := cell_of_two ((hBy.block _ z0).trans hF.out)
          have hBx := Lib.hid hBx
          clear hBy hwx
          go_wp2
          go_region
          go_wp2
          have hY : ∀ o : Obj, Below wr.heap.size wr (wx.alloc o) := fun o => hBx.out.alloc hBx.out.size o
          have hYs := hBx.out.size
          exact ⟨⟨1, by go_num, by omega, by rw [hcost.out]; exact congrArg _ (wrap_zero kc1 kc2), by rw [hstep.out]; simp [needSub, hcr', Int.sub_eq_add_neg, Int.neg_add], by rw [hstep.out]; simp [needSub, hcr', Int.sub_eq_add_neg, Int.neg_add], by rw [hstep.out]; simp [needSub, hcr', Int.sub_eq_add_neg, Int.neg_add], by show _ ≤ (wx.alloc _).heap.size; rw [World.size_alloc]; omega, ((hY _).block _ z0).trans hF.out, ((hY _).block _ z1).trans hN.out, (hB.out.trans ((hY _).mono (by omega))).drew⟩, by simp only [intOf]; omega⟩
        · go_wp2
          go_big_quiet (fail)
          obtain ⟨wx, hwx⟩ : ∃ x, x = wr.drewN nq := ⟨_, rfl⟩
          have hBx : Below wr.heap.size wr wx := hwx ▸ below_drewN_ wr nq
          have hBy : Below wr.heap.size wr (wx.alloc (.cells #[.string ⟨#[]⟩, .int .i64 0, .int .i64 0, .int .i64 0, .int .i64 0, .int .i64 0, .int .i64 0, .int .i64 0, .int .i64 0] 88)) := hBx.alloc hBx.size _
          rw [← hwx]
          clear p0 p1 p2 p3 p4 p5 p6 p7 p8 g0 y1 n1 n2 n3
          obtain ⟨ad1, hA1, g1⟩ := ((h2.below hB.out).below hBx).at1 hlt rfl
          cases hA1
          obtain ⟨ad2, hA2, g2⟩ := ((h2.below hB.out).below hBy).at1 hlt rfl
          cases hA2
          rw [hj.out, ga] at g1 g2
          obtain ⟨ap1, hAp1, p0, p1, p2, p3, p4, p5, p6, p7, p8⟩ := ((h.1.below hB.out).below hBx).at9 hjl rfl
          cases hAp1
          obtain ⟨ap2, hAp2, p0', p1', p2', p3', p4', p5', p6', p7', p8'⟩ := ((h.1.below hB.out).below hBy).at9 hjl rfl
          cases hAp2
          have y1 := cell_of_two ((hBx.block _ z0).trans hF.out)
          have y2 := cell_of_two ((hBy.block _ z0).trans hF.out)
          have hBx := Lib.hid hBx
          clear hBy hwx
          go_wp2
          go_region
          go_wp2
          have hY : ∀ o : Obj, Below wr.heap.size wr (wx.alloc o) := fun o => hBx.out.alloc hBx.out.size o
          have hYs := hBx.out.size
          exact ⟨⟨1, by go_num, by omega, by rw [hcost.out]; exact congrArg _ (wrap_zero kc1 kc2), by rw [hstep.out]; simp [needSub, hcr', Int.sub_eq_add_neg, Int.neg_add], by rw [hstep.out]; simp [needSub, hcr', Int.sub_eq_add_neg, Int.neg_add], by rw [hstep.out]; simp [needSub, hcr', Int.sub_eq_add_neg, Int.neg_add], by show _ ≤ (wx.alloc _).heap.size; rw [World.size_alloc]; omega, ((hY _).block _ z0).trans hF.out, ((hY _).block _ z1).trans hN.out, (hB.out.trans ((hY _).mono (by omega))).drew⟩, by simp only [intOf]; omega⟩
      · have ga : ad.add (k' + 1) = ⟨ad.block, ad.off + (k' + 1), none⟩ := by simp [Addr.add]
        rw [ga] at g0
        have cb3 : decide ((0 : Int) < ((k' + 1 : Nat) : Int)) = true := decide_eq_true (by omega)
        have cb3' : decide ((0 : Int) < ((k' : Nat) : Int) + 1) = true := decide_eq_true (by omega)
        have cb4 : decide ((j : Int) ≤ (j' : Int)) = false := decide_eq_false (by omega)
        have cb4' : decide (j ≤ j') = false := decide_eq_false (by omega)
        rcases hcr with hcr | hcr | hcr <;> have hcr' := hcr
        · go_wp2
          go_big_quiet (fail)
          obtain ⟨wx, hwx⟩ : ∃ x, x = wr.drewN nq := ⟨_, rfl⟩
          have hBx : Below wr.heap.size wr wx := hwx ▸ below_drewN_ wr nq
          have hBy : Below wr.heap.size wr (wx.alloc (.cells #[.string ⟨#[]⟩, .int .i64 0, .int .i64 0, .int .i64 0, .int .i64 0, .int .i64 0, .int .i64 0, .int .i64 0, .int .i64 0] 88)) := hBx.alloc hBx.size _
          rw [← hwx]
          clear p0 p1 p2 p3 p4 p5 p6 p7 p8 g0 y1 n1 n2 n3
          obtain ⟨ad1, hA1, g1⟩ := ((h2.below hB.out).below hBx).at1 hlt rfl
          cases hA1
          obtain ⟨ad2, hA2, g2⟩ := ((h2.below hB.out).below hBy).at1 hlt rfl
          cases hA2
          rw [hj.out, ga] at g1 g2
          obtain ⟨ap1, hAp1, p0, p1, p2, p3, p4, p5, p6, p7, p8⟩ := ((h.1.below hB.out).below hBx).at9 hjl rfl
          cases hAp1
          obtain ⟨ap2, hAp2, p0', p1', p2', p3', p4', p5', p6', p7', p8'⟩ := ((h.1.below hB.out).below hBy).at9 hjl rfl
          cases hAp2
          have y1 := cell_of_two ((hBx.block _ z0).trans hF.out)
          have y2 := cell_of_two ((hBy.block _ z0).trans hF.out)
          have hBx := Lib.hid hBx
          clear hBy hwx
          go_wp2
          go_region
          go_wp2
          have hY : ∀ o : Obj, Below wr.heap.size wr (wx.alloc o) := fun o => hBx.out.alloc hBx.out.size o
          have hYs := hBx.out.size
          exact ⟨⟨k' + 1 + 1, by go_num, by omega, by rw [hcost.out], by rw [hstep.out]; simp [needSub, hcr', Int.sub_eq_add_neg, Int.neg_add], by rw [hstep.out]; simp [needSub, hcr', Int.sub_eq_add_neg, Int.neg_add], by rw [hstep.out]; simp [needSub, hcr', Int.sub_eq_add_neg, Int.neg_add], by show _ ≤ (wx.alloc _).heap.size; rw [World.size_alloc]; omega, ((hY _).block _ z0).trans hF.out, ((hY _).block _ z1).trans hN.out, (hB.out.trans ((hY _).mono (by omega))).drew⟩, by simp only [intOf]; omega⟩
        · go_wp2
          go_big_quiet (fail)
          obtain ⟨wx, hwx⟩ : ∃ x, x = wr.drewN nq := ⟨_, rfl⟩
          have hBx : Below wr.heap.size wr wx := hwx ▸ below_drewN_ wr nq
          have hBy : Below wr.heap.size wr (wx.alloc (.cells #[.string ⟨#[]⟩, .int .i64 0, .int .i64 0, .int .i64 0, .int .i64 0, .int .i64 0, .int .i64 0, .int .i64 0, .int .i64 0] 88)) := hBx.alloc hBx.size _
          rw [← hwx]
          clear p0 p1 p2 p3 p4 p5 p6 p7 p8 g0 y1 n1 n2 n3
          obtain ⟨ad1, hA1, g1⟩ := ((h2.below hB.out).below hBx).at1 hlt rfl
          cases hA1
          obtain ⟨ad2, hA2, g2⟩ := ((h2.below hB.out).below hBy).at1 hlt rfl
          cases hA2
          rw [hj.out, ga] at g1 g2
          obtain ⟨ap1, hAp1, p0, p1, p2, p3, p4, p5, p6, p7, p8⟩ := ((h.1.below hB.out).below hBx).at9 hjl rfl
          cases hAp1
          obtain ⟨ap2, hAp2, p0', p1', p2', p3', p4', p5', p6', p7', p8'⟩ := ((h.1.below hB.out).below hBy).at9 hjl rfl
          cases hAp2
          have y1 := cell_of_two ((hBx.block _ z0).trans hF.out)
          have y2 := cell_of_two ((hBy.block _ z0).trans hF.out)
          have hBx := Lib.hid hBx
          clear hBy hwx
          go_wp2
          go_region
          go_wp2
          have hY : ∀ o : Obj, Below wr.heap.size wr (wx.alloc o) := fun o => hBx.out.alloc hBx.out.size o
          have hYs := hBx.out.size
          exact ⟨⟨k' + 1 + 1, by go_num, by omega, by rw [hcost.out], by rw [hstep.out]; simp [needSub, hcr', Int.sub_eq_add_neg, Int.neg_add], by rw [hstep.out]; simp [needSub, hcr', Int.sub_eq_add_neg, Int.neg_add], by rw [hstep.out]; simp [needSub, hcr', Int.sub_eq_add_neg, Int.neg_add], by show _ ≤ (wx.alloc _).heap.size; rw [World.size_alloc]; omega, ((hY _).block _ z0).trans hF.out, ((hY _).block _ z1).trans hN.out, (hB.out.trans ((hY _).mono (by omega))).drew⟩, by simp only [intOf]; omega⟩
        · go_wp2
          go_big_quiet (fail)
          obtain ⟨wx, hwx⟩ : ∃ x, x = wr.drewN nq := ⟨_, rfl⟩
          have hBx : Below wr.heap.size wr wx := hwx ▸ below_drewN_ wr nq
          have hBy : Below wr.heap.size wr (wx.alloc (.cells #[.string ⟨#[]⟩, .int .i64 0, .int .i64 0, .int .i64 0, .int .i64 0, .int .i64 0, .int .i64 0, .int .i64 0, .int .i64 0] 88)) := hBx.alloc hBx.size _
          rw [← hwx]
          clear p0 p1 p2 p3 p4 p5 p6 p7 p8 g0 y1 n1 n2 n3
          obtain ⟨ad1, hA1, g1⟩ := ((h2.below hB.out).below hBx).at1 hlt rfl
          cases hA1
          obtain ⟨ad2, hA2, g2⟩ := ((h2.below hB.out).below hBy).at1 hlt rfl
          cases hA2
          rw [hj.out, ga] at g1 g2
          obtain ⟨ap1, hAp1, p0, p1, p2, p3, p4, p5, p6, p7, p8⟩ := ((h.1.below hB.out).below hBx).at9 hjl rfl
          cases hAp1
          obtain ⟨ap2, hAp2, p0', p1', p2', p3', p4', p5', p6', p7', p8'⟩ := ((h.1.below hB.out).below hBy).at9 hjl rfl
          cases hAp2
          have y1 := cell_of_two ((hBx.block _ z0).trans hF.out)
          have y2 := cell_of_two ((hBy.block _ z0).trans hF.out)
          have hBx := Lib.hid hBx
          clear hBy hwx
          go_wp2
          go_region
          go_wp2
          have hY : ∀ o : Obj, Below wr.heap.size wr (wx.alloc o) := fun o => hBx.out.alloc hBx.out.size o
          have hYs := hBx.out.size
          exact ⟨⟨k' + 1 + 1, by go_num, by omega, by rw [hcost.out], by rw [hstep.out]; simp [needSub, hcr', Int.sub_eq_add_neg, Int.neg_add], by rw [hstep.out]; simp [needSub, hcr', Int.sub_eq_add_neg, Int.neg_add], by rw [hstep.out]; simp [needSub, hcr', Int.sub_eq_add_neg, Int.neg_add], by show _ ≤ (wx.alloc _).heap.size; rw [World.size_alloc]; omega, ((hY _).block _ z0).trans hF.out, ((hY _).block _ z1).trans hN.out, (hB.out.trans ((hY _).mono (by omega))).drew⟩, by simp only [intOf]; omega⟩
    · have hke : k = s.length := by omega
      subst hke
      have hfull : costOf pl (s.take s.length) = costOf pl s := by rw [List.take_length]
      have hres := enough_got pl n s
      have hfin : ∀ b : Bool, b = enoughB pl n s → (Ending.returned (.tuple #[.int .i64 (costOf pl (s.take s.length)), .bool b, .bool true])) = .returned (.tuple #[.int .i64 (costOf pl s), .bool (enoughB pl n s), .bool true]) := fun b hb => by rw [hfull, hb]
      have hres := Lib.hid hres
      have hfin := Lib.hid hfin
      clear hk hfull
      by_cases d1 : n.reed ≤ -(gotN pl s s.length).reed
      · by_cases d2 : n.straw ≤ -(gotN pl s s.length).straw
        · go_wp2
          go_big_quiet (fail)
          go_wp2
          refine bodyPost_ret (v := .tuple #[.int .i64 (costOf pl (s.take s.length)), .bool (decide (n.heather ≤ -(gotN pl s s.length).heather)), .bool true]) (by simp [results, Try.results21, go_sem]) rfl ⟨hfin.out _ (by rw [hres.out]; simp [d1, d2]), hB.out.trans (below_drewN_ wr nq)⟩
        · have cd2 : decide (n.straw ≤ -(gotN pl s s.length).straw) = false := decide_eq_false d2
          go_wp2
          go_big_quiet (fail)
          go_wp2
          refine bodyPost_ret (v := .tuple #[.int .i64 (costOf pl (s.take s.length)), .bool false, .bool true]) (by simp [results, Try.results21, go_sem]) rfl ⟨hfin.out _ (by rw [hres.out, cd2]; simp only [Bool.and_false, Bool.false_and]), hB.out.trans (below_drewN_ wr nq)⟩
      · have cd1 : decide (n.reed ≤ -(gotN pl s s.length).reed) = false := decide_eq_false d1
        go_wp2
        go_big_quiet (fail)
        go_wp2
        refine bodyPost_ret (v := .tuple #[.int .i64 (costOf pl (s.take s.length)), .bool false, .bool true]) (by simp [results, Try.results21, go_sem]) rfl ⟨hfin.out _ (by rw [hres.out, cd1]; simp only [Bool.and_false, Bool.false_and]), hB.out.trans (below_drewN_ wr nq)⟩
end Go.Proofs.Ytpgkhlpepckfgaa
