/-
  The specification's Choose, walked.
-/
import Derived.Test.YtpgkhlpepckfgaaEnough
import Derived.Test.YtpgkhlpepckfgaaRC
import Derived.Test.YtpgkhlpepckfgaaChoose
namespace Go.Proofs.Ytpgkhlpepckfgaa
open Go.RowKit Go.Lib

/-- What the specification's Choose answers. -/
def chooseR (l : List Plot) (dry : Int) (n : Need) : Best × Int :=
  if checkI l dry ≠ 0 then (⟨false, 0, []⟩, checkI l dry)
  else if (inB n.reed 0 100000 && inB n.straw 0 100000 && inB n.heather 0 100000) = false then (⟨false, 0, []⟩, 1)
  else (refC l n (2 ^ l.length), 0)
theorem chooseR_eq (l : List Plot) (dry : Int) (n : Need) : chooseR l dry n = chooseP l dry n := by
  unfold chooseR chooseP; rw [choose_one]

theorem pow_wrap {k : Nat} (h : k ≤ 12) : wrap64 (2 ^ k) = ((2 ^ k : Nat) : Int) := by
  have : (2 ^ k : Nat) ≤ 4096 := Nat.pow_le_pow_right (n := 2) (by omega) h
  have e : ((2 : Int) ^ k) = ((2 ^ k : Nat) : Int) := by simp
  rw [e]
  generalize hx : (2 ^ k : Nat) = x at *
  unfold wrap64
  omega
theorem testBit_int (m i : Nat) (h : m < 5000) : (bits BinOp.and IntKind.i64 ((m : Int) / 2 ^ i) 1 == 1) = m.testBit i := by
  have e : ((m : Int) / 2 ^ i) = ((m / 2 ^ i : Nat) : Int) := by simp
  rw [e]
  have hle : m / 2 ^ i ≤ m := Nat.div_le_self _ _
  rw [Nat.testBit_eq_decide_div_mod_eq]
  generalize m / 2 ^ i = q at *
  have hq : bits BinOp.and IntKind.i64 (q : Int) 1 = (q : Int) % 2 := by
    unfold bits
    simp only [BitVec.ofInt_natCast, show ((1 : Int)) = ((1 : Nat) : Int) from rfl, BitVec.toNat_and, BitVec.toNat_ofNat]
    have a1 : q % 2 ^ IntKind.i64.bits = q := Nat.mod_eq_of_lt (by show q < 2 ^ 64; omega)
    have a2 : 1 % 2 ^ IntKind.i64.bits = 1 := rfl
    rw [a1, a2, Nat.and_one_is_mod, IntKind.wrap_i64]
    omega
  rw [hq]
  rw [Bool.eq_iff_iff]
  simp
  omega
theorem pick_len (i m : Nat) : (pick i m).length ≤ i := by
  have := (pick_sublist i m).length_le
  simpa [fields] using this
theorem pick_in {l : List Plot} {i m : Nat} (hi : i ≤ l.length) : InFields l (pick i m) := fun x hx => by
  have := (pick_sublist i m).subset hx
  simp only [fields, List.mem_map, List.mem_range'] at this
  obtain ⟨j, ⟨k, hk, rfl⟩, rfl⟩ := this
  omega
theorem cost_bounds {l : List Plot} (hok : ∀ p ∈ l, plotOk p = true) : ∀ s : List Int, 0 ≤ costOf l s ∧ costOf l s ≤ 1000000 * s.length
  | [] => by simp [costOf]
  | i :: s => by
    obtain ⟨h0, h1⟩ := cost_bounds hok s
    have hp : 0 ≤ (plotAt l i).cost ∧ (plotAt l i).cost ≤ 1000000 := by
      unfold plotAt
      by_cases hi : i.toNat < l.length
      · rw [getD_lt _ hi]
        have := plotOk_bounds (hok _ (List.getElem_mem hi))
        omega
      · rw [List.getD_eq_getElem?_getD, List.getElem?_eq_none (by omega)]
        exact ⟨by decide, by decide⟩
    simp only [costOf, List.map_cons, List.sum_cons, List.length_cons] at h0 h1 ⊢
    omega
theorem cells_two {w : World} {b : Nat} {x y : Value} {t : TypeId} (h : w.heap[b]? = some (.cells #[x, y] t (0, 0))) : w.cell? ⟨b, 0, none⟩ = some x ∧ w.cell? ⟨b, 1, none⟩ = some y := by
  refine ⟨?_, ?_⟩ <;> simp [World.cell?, h]
abbrev W2 (w : World) (f n : Array Value) : World := (w.alloc (.cells f 24)).alloc (.cells n 26)
theorem two_below (w : World) (f n : Array Value) : Below w.heap.size w (W2 w f n) := ((Below.refl _ w).alloc (Nat.le_refl _) _).alloc (by simp) _
theorem two_cells (w : World) (f n : Array Value) {w1 : World} (hb : Below (W2 w f n).heap.size (W2 w f n) w1) : w.heap.size + 2 ≤ w1.heap.size ∧ w1.heap[w.heap.size]? = some (.cells f 24 (0, 0)) ∧ w1.heap[w.heap.size + 1]? = some (.cells n 26 (0, 0)) := by
  have hs := hb.size
  simp at hs
  exact ⟨by omega, (hb.block _ (by simp; omega)).trans (heap_old _ _ _ _ (heap_new _ _ _ rfl)), (hb.block _ (by simp)).trans (heap_new _ _ _ (by simp))⟩

set_option maxHeartbeats 2000000 in
set_option maxRecDepth 100000 in
theorem rchoose_any (A : Option Addr) (c : Nat) (l : List Plot) (dry : Int) (n : Need) (w : World) (h : RdPlots w A l) :
    Calls Try.prog 19 #[.agg #[.slice A l.length c, .int .i64 dry], .agg #[.int .i64 n.reed, .int .i64 n.straw, .int .i64 n.heather]] w fun e w' => Chosen (chooseR l dry n) w e w' := by
  by_cases hck : checkI l dry = 0
  · have hb0 : (checkI l dry == 0) = true := by rw [hck]; rfl
    have hb0' : (checkI l dry != 0) = false := by rw [hck]; rfl
    by_cases hin : (inB n.reed 0 100000 && inB n.straw 0 100000 && inB n.heather 0 100000) = false
    · have hR : Hid (chooseR l dry n = (⟨false, 0, []⟩, 1)) := by unfold Hid chooseR; rw [if_neg (fun h => h hck), if_pos hin]
      have hin := Lib.hid hin
      have hck := Lib.hid hck
      go_enter Try.func19, Try.ntmps19
      go_wp2_with (first | (go_at_call 26; refine (rcheck_any _ _ _ _ _ (h.below (two_below w _ _))).mono ?_; rintro e w1 ⟨rfl, hb1⟩; obtain ⟨hz1, hF, hN⟩ := two_cells w _ _ hb1; obtain ⟨n1, n2, n3⟩ := cells_three hN; have g1 := cell_of_two hF) | (go_at_call 49; refine (rin_any _ _ _ _).mono ?_; rintro e w' ⟨rfl, rfl⟩))
      all_goals first
        | (exfalso; have := hin.out; simp_all; done)
        | (refine bodyPost_ret (v := .tuple #[.slice none 0 0, .int .i64 0, .bool false, .int .i64 1]) (by simp [results, Try.results19, go_sem]) rfl ?_
           exact ⟨none, 0, by rw [hR.out]; rfl, by rw [hR.out]; exact ⟨by simp, by simp⟩, (two_below w _ _).trans (hb1.mono (by simp; omega))⟩)
    · have hR : Hid (chooseR l dry n = (refC l n (2 ^ l.length), 0)) := by unfold Hid chooseR; rw [if_neg (fun h => h hck), if_neg hin]
      have h12 : Hid (l.length ≤ 12) := (checkI_zero hck).1
      have hok : Hid (∀ p ∈ l, plotOk p = true) := checkI_ok hck
      have hin3 := hin
      simp only [Bool.not_eq_false, Bool.and_eq_true] at hin
      obtain ⟨⟨i1, i2⟩, i3⟩ := hin
      have hck := Lib.hid hck
      go_enter Try.func19, Try.ntmps19
      go_wp2_with (first | (go_at_call 26; refine (rcheck_any _ _ _ _ _ (h.below (two_below w _ _))).mono ?_; rintro e w1 ⟨rfl, hb1⟩; obtain ⟨hz1, hF, hN⟩ := two_cells w _ _ hb1; obtain ⟨n1, n2, n3⟩ := cells_three hN; have g1 := cell_of_two hF) | (go_at_call 49; refine (rin_any _ _ _ _).mono ?_; rintro e w' ⟨rfl, rfl⟩))
      have hB0 := Lib.hid ((two_below w _ _).trans (hb1.mono (by simp; omega)))
      have hF := Lib.hid hF
      have hN := Lib.hid hN
      clear hb1 n1 n2 n3 g1 hin3
      obtain ⟨P, hP, hwr⟩ : ∃ P : Nat, P = 2 ^ l.length ∧ wrap64 (2 ^ l.length) = (P : Int) := ⟨_, rfl, pow_wrap h12.out⟩
      have hP4 : P ≤ 4096 := by rw [hP]; exact Nat.pow_le_pow_right (n := 2) (by omega) h12.out
      rw [← hP] at hR
      have hP' : Hid ((2 : Int) ^ l.length = (P : Int)) := by rw [hP]; unfold Hid; simp
      have hP := Lib.hid hP
      go_loopw [9, 10, 11, 12] (fun v9 v10 v11 v12 wr => ∃ (m : Nat) (A' : Option Addr) (c' : Nat), v12 = .int .i64 m ∧ m ≤ P ∧ v10 = .int .i64 (refC l n m).cost ∧ v11 = .bool (refC l n m).found ∧ v9 = .slice A' (refC l n m).choice.length c' ∧ Hid (RdInts wr A' (refC l n m).choice) ∧
        w.heap.size + 2 ≤ wr.heap.size ∧ Hid (wr.heap[w.heap.size]? = some (.cells #[.slice A l.length c, .int .i64 dry] 24 (0, 0))) ∧ Hid (wr.heap[w.heap.size + 1]? = some (.cells #[.int .i64 n.reed, .int .i64 n.straw, .int .i64 n.heather] 26 (0, 0))) ∧ Hid (Below w.heap.size w wr)) (fun _ _ _ v _ => P - (intOf v).toNat)
      case atStart => exact ⟨0, none, 0, rfl, Nat.zero_le _, rfl, rfl, rfl, ⟨by simp [refC, picks], by simp [refC, picks]⟩, hz1, hF, hN, hB0⟩
      case round =>
        obtain ⟨m, A', c', rfl, hm, rfl, rfl, rfl, hRd, hsz, hF, hN, hB⟩ := hrel
        clear hB0
        have y1 := cell_of_two hF.out
        have z0 : w.heap.size < wr.heap.size := by omega
        have hl12 := h12.out
        go_wp2
        · have hlt : m < P := by have := hP'.out; omega
          have hdt : decide ((m : Int) < 2 ^ l.length) = true := decide_eq_true (by assumption)
          rw [hdt]
          clear hdt
          obtain ⟨wo, rfl⟩ : ∃ x, x = wr := ⟨wr, rfl⟩
          go_loopw [13, 14, 15] (fun v13 v14 v15 wi => ∃ i : Nat, v15 = .int .i64 i ∧ i ≤ l.length ∧ v14 = .int .i64 (costOf l (pick i m)) ∧ Hid (SlRow wi wo.heap.size v13 (pick i m)) ∧ Hid (Below wo.heap.size wo wi)) (fun _ _ v _ => l.length - (intOf v).toNat)
          case atStart => exact ⟨0, rfl, Nat.zero_le _, rfl, World.ownsRow_nil _ _ _ _, Below.refl _ _⟩
          case round =>
            obtain ⟨i, rfl, hi, rfl, hrow, hb⟩ := hrel
            obtain ⟨Ar, cr, rfl⟩ := hrow.out.slice
            have hs2 := hb.out.size
            have y2 : wr.cell? ⟨w.heap.size, 0, none⟩ = some (.slice A l.length c) := (bcell hb.out).1 _ _ z0 |>.trans y1
            have z1 : w.heap.size < wr.heap.size := by omega
            have hco := Lib.hid (cost_bounds hok.out (pick i m))
            by_cases hil : i < l.length
            · clear hwr
              have hlen := pick_len i m
              obtain ⟨ap, hA, p0, p1, p2, p3, p4, p5, p6, p7, p8⟩ := ((h.1.below hB.out).below hb.out).at9 hil rfl
              subst hA
              have hsnoc : Hid (costOf l (pick (i + 1) m) = costOf l (pick i m) + if m.testBit i = true then l[i].cost else 0) := by
                unfold Hid
                rw [pick_succ]
                split
                · rw [costOf_snoc, plotAt, Int.toNat_natCast, getD_lt _ hil]
                · simp
              have hpk := plotOk_bounds (hok.out _ (List.getElem_mem hil))
              obtain ⟨_, _, _, _, _, _, _, _, _, _, _, k1, k2⟩ := hpk
              obtain ⟨e1, e2⟩ := hco.out
              cases hbit : m.testBit i
              · have hbt := testBit_int m i (by omega)
                rw [hbit] at hbt
                go_wp2
                refine ⟨⟨i + 1, by go_num, by omega, by rw [hsnoc.out, hbit]; simp, ?_, hb⟩, by simp only [intOf]; omega⟩
                have : pick (i + 1) m = pick i m := by rw [pick_succ, hbit]; simp
                rw [this]
                exact hrow
              · have hbt := testBit_int m i (by omega)
                rw [hbit] at hbt
                have hnew := Lib.hid (cell_one_new wr (.int .i64 i) 3)
                have hrl2 : Hid (SlRow (wr.alloc (.cells #[.int .i64 i] 3)) wo.heap.size (.slice Ar (pick i m).length cr) (pick i m)) := hrow.out.below ((Below.refl _ wr).alloc (Nat.le_refl _) _)
                have hc1 : Hid ((pick i m).length + 1 ≤ maxLen) := by unfold Hid maxLen; omega
                have hc2 : Hid (((pick i m).length + 1) * 8 ≤ 140737488355328) := by unfold Hid; omega
                have hc3 : Hid (wo.heap.size ≤ (wr.alloc (.cells #[.int .i64 i] 3)).heap.size) := by unfold Hid; simp; omega
                go_wp2_with (at_builtin; refine wp_app _ rfl _ _ 29 rfl wo.heap.size 3 1 8 Try.underlying29 info3 rfl (by decide) _ _ _ rfl (hrl2.out) ⟨wr.heap.size, 0, none⟩ 1 1 [.int .i64 i] rfl rfl hnew.out (by simp [Value.oneCell']) hc1.out hc2.out hc3.out ?_; intro v' w1 hown hgrow hnear; have hb1 : Below wo.heap.size wo w1 := (hb.out.alloc hs2 _).grown hgrow hc3.out (fun k e => (hrl2.out.lt k e).1); obtain ⟨g', cap', rfl, _, _⟩ := row_succ hown; have y3 : w1.cell? ⟨w.heap.size, 0, none⟩ = some (.slice (some ap) l.length c) := (bcell hb1).1 _ _ z0 |>.trans y1; have hs3 := hb1.size; have z3 : w.heap.size < w1.heap.size := Nat.lt_of_lt_of_le z0 hs3; obtain ⟨ap', hA', q0, q1, q2, q3, q4, q5, q6, q7, q8⟩ := ((h.1.below hB.out).below hb1).at9 hil rfl; cases hA'; have hb1 := Lib.hid hb1; have hown := Lib.hid hown)
                have hpk1 : pick (i + 1) m = pick i m ++ [(i : Int)] := by rw [pick_succ, hbit]; simp
                refine ⟨?_, by simp only [intOf]; omega⟩
                · refine ⟨i + 1, rfl, by omega, by rw [hsnoc.out, hbit]; simp, ?_, hb1⟩
                  rw [hpk1]
                  unfold SlRow Hid
                  rw [List.map_append, List.length_append]
                  exact hown.out
            · have hie : i = l.length := by omega
              subst hie
              clear hwr hil hi
              have hin2 := Lib.hid (pick_in (l := l) (m := m) (Nat.le_refl _))
              have hlen := pick_len l.length m
              have hSl := hrow.out.reads (by omega)
              obtain ⟨A2, c2, e2, hRs⟩ := hSl
              cases e2
              have hFi := Lib.hid ((hb.out.block _ z0).trans hF.out)
              have z4 : w.heap.size + 1 < wo.heap.size := by omega
              have hNi := Lib.hid ((hb.out.block _ z4).trans hN.out)
              obtain ⟨n1, n2, n3⟩ := cells_three hNi.out
              have hF2 := cells_two hFi.out
              obtain ⟨f1, f2⟩ := hF2
              have hPl := (h.below hB.out).below hb.out
              have hRi := hRd.out.below hb.out
              have hst := Lib.hid (refC_succ l n m)
              have hfin : ∀ wx, Below wr.heap.size wr wx → w.heap.size + 2 ≤ wx.heap.size ∧ Hid (wx.heap[w.heap.size]? = some (.cells #[.slice A l.length c, .int .i64 dry] 24 (0, 0))) ∧ Hid (wx.heap[w.heap.size + 1]? = some (.cells #[.int .i64 n.reed, .int .i64 n.straw, .int .i64 n.heather] 26 (0, 0))) ∧ Hid (Below w.heap.size w wx) := fun wx hx => by
                have h3 := hx.size
                have h4 : Below wo.heap.size wo wx := hb.out.trans (hx.mono hs2)
                exact ⟨by omega, (h4.block _ z0).trans hF.out, (h4.block _ z4).trans hN.out, hB.out.trans (h4.mono (by omega))⟩
              have hm1 : m + 1 ≤ P := hlt
              have hm1 := Lib.hid hm1
              have hmeas : P - (intOf (.int .i64 ((m : Int) + 1))).toNat < P - (intOf (.int .i64 (m : Int))).toNat := by simp only [intOf]; omega
              have hmeas := Lib.hid hmeas
              cases hE : enoughB l n (pick l.length m)
              · have hq : Hid (refC l n (m + 1) = refC l n m) := by
                  unfold Hid; rw [hst.out, stepC, if_neg (by rintro ⟨x1, x2⟩; rw [hE] at x1; cases x1)]
                go_wp2_with (first | (go_at_call 50; refine (enough_any _ _ _ _ l dry n (pick l.length m) _ hPl hRs hin2.out hok.out (Nat.le_trans hlen h12.out)).mono ?_; rintro e w3 ⟨rfl, hb3⟩) | (go_at_call 51; refine (ahead_any _ _ _ _ (pick l.length m) (refC l n m).choice (costOf l (pick l.length m)) (refC l n m).cost _ (hRs.below hb3) (hRi.below hb3)).mono ?_; rintro e w4 ⟨rfl, hb4⟩))
                exact ⟨⟨m + 1, A', c', rfl, hm1.out, by rw [hq.out], by rw [hq.out], by rw [hq.out], by rw [hq.out]; exact hRi.below hb3, hfin _ hb3⟩, hmeas.out⟩
              · cases hFd : (refC l n m).found
                · have hq : Hid (refC l n (m + 1) = ⟨true, costOf l (pick l.length m), pick l.length m⟩) := by
                    unfold Hid; rw [hst.out, stepC, if_pos ⟨hE, .inl hFd⟩]
                  go_wp2_with (first | (go_at_call 50; refine (enough_any _ _ _ _ l dry n (pick l.length m) _ hPl hRs hin2.out hok.out (Nat.le_trans hlen h12.out)).mono ?_; rintro e w3 ⟨rfl, hb3⟩) | (go_at_call 51; refine (ahead_any _ _ _ _ (pick l.length m) (refC l n m).choice (costOf l (pick l.length m)) (refC l n m).cost _ (hRs.below hb3) (hRi.below hb3)).mono ?_; rintro e w4 ⟨rfl, hb4⟩))
                  exact ⟨⟨m + 1, Ar, cr, rfl, hm1.out, by rw [hq.out], by rw [hq.out], by rw [hq.out], by rw [hq.out]; exact hRs.below hb3, hfin _ hb3⟩, hmeas.out⟩
                · by_cases hC : cmp3 (costOf l (pick l.length m)) (pick l.length m) (refC l n m).cost (refC l n m).choice < 0
                  · have hq : Hid (refC l n (m + 1) = ⟨true, costOf l (pick l.length m), pick l.length m⟩) := by
                      unfold Hid; rw [hst.out, stepC, if_pos ⟨hE, .inr hC⟩]
                    go_wp2_with (first | (go_at_call 50; refine (enough_any _ _ _ _ l dry n (pick l.length m) _ hPl hRs hin2.out hok.out (Nat.le_trans hlen h12.out)).mono ?_; rintro e w3 ⟨rfl, hb3⟩) | (go_at_call 51; refine (ahead_any _ _ _ _ (pick l.length m) (refC l n m).choice (costOf l (pick l.length m)) (refC l n m).cost _ (hRs.below hb3) (hRi.below hb3)).mono ?_; rintro e w4 ⟨rfl, hb4⟩))
                    have hb5 := hb3.trans (hb4.mono hb3.size)
                    exact ⟨⟨m + 1, Ar, cr, rfl, hm1.out, by rw [hq.out], by rw [hq.out], by rw [hq.out], by rw [hq.out]; exact hRs.below hb5, hfin _ hb5⟩, hmeas.out⟩
                  · have hq : Hid (refC l n (m + 1) = refC l n m) := by
                      unfold Hid; rw [hst.out, stepC, if_neg (by rintro ⟨x1, x2⟩; rw [hFd] at x2; rcases x2 with x2 | x2; exact absurd x2 (by decide); exact hC x2)]
                    go_wp2_with (first | (go_at_call 50; refine (enough_any _ _ _ _ l dry n (pick l.length m) _ hPl hRs hin2.out hok.out (Nat.le_trans hlen h12.out)).mono ?_; rintro e w3 ⟨rfl, hb3⟩) | (go_at_call 51; refine (ahead_any _ _ _ _ (pick l.length m) (refC l n m).choice (costOf l (pick l.length m)) (refC l n m).cost _ (hRs.below hb3) (hRi.below hb3)).mono ?_; rintro e w4 ⟨rfl, hb4⟩))
                    have hb5 := hb3.trans (hb4.mono hb3.size)
                    exact ⟨⟨m + 1, A', c', rfl, hm1.out, by rw [hq.out], by rw [hq.out, hFd], by rw [hq.out], by rw [hq.out]; exact hRi.below hb5, hfin _ hb5⟩, hmeas.out⟩
        · have hlt : m = P := by have := hP'.out; omega
          subst hlt
          clear hwr
          go_wp2
          refine bodyPost_ret (v := .tuple #[.slice A' (refC l n m).choice.length c', .int .i64 (refC l n m).cost, .bool (refC l n m).found, .int .i64 0]) (by simp [results, Try.results19, go_sem]) rfl ?_
          exact ⟨A', c', by rw [hR.out], by rw [hR.out]; exact hRd.out, hB.out⟩
  · have hb0 : (checkI l dry == 0) = false := by simpa using hck
    have hb0' : (checkI l dry != 0) = true := bne_iff_ne.2 hck
    have hR : Hid (chooseR l dry n = (⟨false, 0, []⟩, checkI l dry)) := if_pos hck
    have hck := Lib.hid hck
    go_enter Try.func19, Try.ntmps19
    go_wp2_with (go_at_call 26; refine (rcheck_any _ _ _ _ _ (h.below (two_below w _ _))).mono ?_; rintro e w1 ⟨rfl, hb1⟩; obtain ⟨hz1, hF, hN⟩ := two_cells w _ _ hb1; have g1 := cell_of_two hF)
    refine bodyPost_ret (v := .tuple #[.slice none 0 0, .int .i64 0, .bool false, .int .i64 (checkI l dry)]) (by simp [results, Try.results19, go_sem]) rfl ?_
    exact ⟨none, 0, by rw [hR.out]; rfl, by rw [hR.out]; exact ⟨by simp, by simp⟩, (two_below w _ _).trans (hb1.mono (by simp; omega))⟩
end Go.Proofs.Ytpgkhlpepckfgaa
