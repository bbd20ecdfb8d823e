/-
  straw.CheckStore, walked.
-/
import Derived.Test.YtpgkhlpepckfgaaSCS
namespace Go.Proofs.Ytpgkhlpepckfgaa
open Go.RowKit Go.Lib Go.Maps Go.WideMaps

set_option maxHeartbeats 2000000 in
set_option maxRecDepth 100000 in
theorem checkStore_any (A : Option Addr) (c : Nat) (pl : List Plot) (dry : Int) (s : Store) (w : World) (h : RdPlots w A pl) (hs : RdStore w s) (hu : s.used.length ≤ 1000000) (hw : s.waste.length ≤ 1000000) (hh : ∀ x ∈ s.heaps, x.parts.length ≤ 1000000) :
    Calls Try.prog 28 #[.agg #[.slice A pl.length c, .int .i64 dry], storeVal s] w fun e w' => e = .returned (.int .i64 (checkS pl dry s)) ∧ Below w.heap.size w w' := by
  have hl1 := h.1.1
  have b1 := hs.last.1
  have b2 := hs.given.1
  have b3 := hs.heaps.1.1
  obtain ⟨W0, hW0⟩ : ∃ W0, W0 = (w.alloc (.cells #[.slice A pl.length c, .int .i64 dry] 24)).alloc (.cells (storeCells s) 43) := ⟨_, rfl⟩
  have hb0 : Hid (Below w.heap.size w W0) := by rw [hW0]; exact ((Below.refl _ w).alloc (Nat.le_refl _) _).alloc (by simp) _
  have g1 : Hid (W0.heap[w.heap.size]? = some (.cells #[.slice A pl.length c, .int .i64 dry] 24 (0, 0))) := by rw [hW0]; exact heap_old _ _ _ _ (heap_new _ _ _ rfl)
  have g2 : Hid (W0.heap[w.heap.size + 1]? = some (.cells (storeCells s) 43 (0, 0))) := by rw [hW0]; exact heap_new _ _ _ (by simp)
  have hz : W0.heap.size = w.heap.size + 2 := by rw [hW0]; simp
  have hz0 : w.heap.size < W0.heap.size := by omega
  have hz1 : w.heap.size + 1 < W0.heap.size := by omega
  replace hz := Lib.hid hz
  have d1 := cell_of_two g1.out
  have d2 : W0.cell? ⟨w.heap.size, 1, none⟩ = some (.int .i64 dry) := by simp [World.cell?, g1.out]
  obtain ⟨k0, k1, k2, k3, k4, k5⟩ := six_cells g2.out
  obtain ⟨ck, hck⟩ : ∃ ck, ck = checkI pl dry := ⟨_, rfl⟩
  have hca := check_any A c pl dry W0 (h.below hb0.out)
  rw [← hck] at hca
  replace hca := Lib.hid hca
  by_cases hc0 : ck = 0
  · subst hc0
    have hlen : pl.length ≤ 12 := by
      exact (checkI_zero hck.symm).1
    have hmk := make_cnt pl.length (by omega)
    have hmm := @run_makeMap Try.prog
    replace hck := Lib.hid hck.symm
    cases q : storeHead pl s with
    | false =>
      have hst := Lib.hid (checkS_not (s := s) hck.out (by rw [storeB_eq, q]; rfl))
      replace q := Lib.hid q
      clear hmk hmm
      go_enter Try.func28, Try.ntmps28
      go_wp2_with fail
      rw [← hW0]
      replace hW0 := Lib.hid hW0
      go_wp2_with (first | (go_at_call 25; refine hca.out.mono ?_; rintro e w1 ⟨rfl, hb1⟩; obtain ⟨r1, s1⟩ := bcell hb1; have y0 := Nat.lt_of_lt_of_le hz0 hb1.size; have y1 := Nat.lt_of_lt_of_le hz1 hb1.size) | (go_at_call 43; refine (in_any _ _ _ _).mono ?_; rintro e w' ⟨rfl, rfl⟩) | (go_at_call 60; first | ((with_reducible refine (proper_any _ _ _ _ pl dry s.waste _ (h.below (hb0.out.trans ((hb1.trans (hb2.mono hb1.size)).mono hb0.out.size))) (hs.waste.below (hb0.out.trans ((hb1.trans (hb2.mono hb1.size)).mono hb0.out.size)))).mono ?_); rintro e w3 ⟨rfl, hb3⟩) | ((with_reducible refine (proper_any _ _ _ _ pl dry s.used _ (h.below (hb0.out.trans (hb1.mono hb0.out.size))) (hs.used.below (hb0.out.trans (hb1.mono hb0.out.size)))).mono ?_); rintro e w2 ⟨rfl, hb2⟩; obtain ⟨r2, s2⟩ := bcell hb2; have y2 := Nat.lt_of_lt_of_le y0 hb2.size; have y3 := Nat.lt_of_lt_of_le y1 hb2.size)))
      all_goals first
        | (exfalso; have q := q.out; simp_all [storeHead]; done)
        | (exfalso; have q := q.out; simp_all [storeHead]; omega)
        | (go_ret; refine ⟨by rw [hst.out]; rfl, ?_⟩; first | exact hb0.out.trans ((hb1.trans ((hb2.trans (hb3.mono hb2.size)).mono hb1.size)).mono hb0.out.size) | exact hb0.out.trans ((hb1.trans (hb2.mono hb1.size)).mono hb0.out.size) | exact hb0.out.trans (hb1.mono hb0.out.size))
    | true =>
      have q' := q
      simp only [storeHead, Bool.and_eq_true, decide_eq_true_eq] at q'
      obtain ⟨⟨⟨⟨⟨t1, t2⟩, t3⟩, t4⟩, t5⟩, t6⟩ := q'
      have e2 : ((s.last.length : Int) != (pl.length : Int)) = false := by rw [t2]; simp
      have e3 : ((s.given.length : Int) != (pl.length : Int)) = false := by rw [t3]; simp
      have e4 : decide (16 < (s.heaps.length : Int)) = false := by simp; omega
      have hbq : storeB pl s = (allB (heapAt pl s.heaps) s.heaps.length && decide (totalS s ≤ 100000) && allB (fieldAt s) pl.length) := by rw [storeB_eq, q, Bool.true_and]
      have i5 := Lib.hid (proper_in t5)
      have i6 := Lib.hid (proper_in t6)
      have m5 := Lib.hid (proper_mild t5 hu)
      have m6 := Lib.hid (proper_mild t6 hw)
      have mf1 : Hid (∀ i : Nat, 0 ≤ (fun _ : Nat => (0 : Int)) i ∧ (fun _ : Nat => (0 : Int)) i ≤ 1000000000000000) := fun i => ⟨Int.le_refl 0, by show (0 : Int) ≤ 1000000000000000; decide⟩
      have mf2 : Hid (∀ i : Nat, 0 ≤ (0 : Int) + ofL s.used i ∧ (0 : Int) + ofL s.used i ≤ 1000000000000000) := fun i => by have := m5.out.of i; omega
      replace q := Lib.hid q
      replace hbq := Lib.hid hbq
      replace t2 := Lib.hid t2
      replace t3 := Lib.hid t3
      obtain ⟨ha, hha⟩ : ∃ x, x = s.ha := ⟨_, rfl⟩
      rw [← hha] at k3
      replace hha := Lib.hid hha
      have hlen6 : Hid (pl.length ≤ 1000000) := by unfold Hid; omega
      go_enter Try.func28, Try.ntmps28
      go_wp2_with fail
      rw [← hW0]
      replace hW0 := Lib.hid hW0
      go_wp2_with (first | (go_at_call 25; refine hca.out.mono ?_; rintro e w1 ⟨rfl, hb1⟩; obtain ⟨r1, s1⟩ := bcell hb1; have y0 := Nat.lt_of_lt_of_le hz0 hb1.size; have y1 := Nat.lt_of_lt_of_le hz1 hb1.size) | (go_at_call 43; refine (in_any _ _ _ _).mono ?_; rintro e w' ⟨rfl, rfl⟩) | (go_at_call 60; first | ((with_reducible refine (proper_any _ _ _ _ pl dry s.waste _ (h.below (hb0.out.trans ((hb1.trans (hb2.mono hb1.size)).mono hb0.out.size))) (hs.waste.below (hb0.out.trans ((hb1.trans (hb2.mono hb1.size)).mono hb0.out.size)))).mono ?_); rintro e w3 ⟨rfl, hb3⟩; obtain ⟨r3, s3⟩ := bcell hb3; have y4 := Nat.lt_of_lt_of_le y2 hb3.size; have y5 := Nat.lt_of_lt_of_le y3 hb3.size; have hC0 := Lib.hid (CS0.made (hb0.out.trans ((hb1.trans ((hb2.trans (hb3.mono hb2.size)).mono hb1.size)).mono hb0.out.size)) (((hb1.trans ((hb2.trans (hb3.mono hb2.size)).mono hb1.size)).block _ hz0).trans g1.out) (((hb1.trans ((hb2.trans (hb3.mono hb2.size)).mono hb1.size)).block _ hz1).trans g2.out) y5)) | ((with_reducible refine (proper_any _ _ _ _ pl dry s.used _ (h.below (hb0.out.trans (hb1.mono hb0.out.size))) (hs.used.below (hb0.out.trans (hb1.mono hb0.out.size)))).mono ?_); rintro e w2 ⟨rfl, hb2⟩; obtain ⟨r2, s2⟩ := bcell hb2; have y2 := Nat.lt_of_lt_of_le y0 hb2.size; have y3 := Nat.lt_of_lt_of_le y1 hb2.size)) | (go_at_call 61; first | ((with_reducible refine (hC1.out.count_any _ _ s.waste hs.waste m6.out i6.out mf2.out hlen6.out).mono ?_); rintro e w5 ⟨rfl, hC2, _⟩; obtain ⟨_, _, _, x3, _, _⟩ := six_cells hC2.store; rw [← hha.out] at x3; have z5 := Nat.lt_of_lt_of_le hC2.hg (Nat.le_of_lt hC2.size); have hC2 := Lib.hid hC2) | ((with_reducible refine (hC0.out.count_any _ _ s.used hs.used m5.out i5.out mf1.out hlen6.out).mono ?_); rintro e w4 ⟨rfl, hC1, _⟩; obtain ⟨_, _, _, _, _, x5⟩ := six_cells hC1.store; have hC1 := Lib.hid hC1)))
      have hCM := Lib.hid (hC2.out.mapped)
      replace t5 := Lib.hid t5
      replace t6 := Lib.hid t6
      clear r1 s1 r2 s2 r3 s3 x3 x5 k0 k1 k2 k3 k4 k5 d1 d2 hC0 hC1 hmk hmm t1
      go_loopw [76] (fun v wr => ∃ k : Nat, v = .int .i64 k ∧ k ≤ s.heaps.length ∧ Hid (∀ j, j < k → heapAt pl s.heaps j = true) ∧ Hid (CS w A c pl dry s w3.heap.size w5.heap.size k (fun i => ofL s.used i + ofL s.waste i + leftL (s.heaps.take k) i) wr)) (fun v _ => s.heaps.length - (intOf v).toNat)
      case atStart => exact ⟨0, rfl, Nat.zero_le _, (fun j hj => absurd hj (Nat.not_lt_zero _)), hCM.out.ext (fun i => by simp [leftL])⟩
      case round =>
        obtain ⟨k, rfl, hk, hall, hC⟩ := hrel
        have hCb := hC.out.below
        have hCb := Lib.hid hCb
        by_cases hlt : k < s.heaps.length
        · obtain ⟨aa, ah, a0, a1, a2, a3, a4, a5, a6⟩ := (FlatRow.below hs.heaps.1 hCb.out).at7 hlt rfl
          obtain ⟨H, hH⟩ : ∃ H, H = s.heaps[k] := ⟨_, rfl⟩
          obtain ⟨hp, hnm⟩ := hs.heaps.2 _ (List.getElem_mem hlt)
          have hpl := hh _ (List.getElem_mem hlt)
          have hA := heapAt_eq (pl := pl) hlt
          have hK1 := knownH_put s.heaps k hlt
          have hK2 := knownH_other s.heaps k hlt
          have hlf : Hid (∀ i : Nat, leftL (s.heaps.take (k + 1)) (i : Int) = leftL (s.heaps.take k) i + ofL s.heaps[k].parts i) := fun i => leftL_take s.heaps i k hlt
          rw [← hH] at a0 a1 a2 a3 a4 a5 a6 hp hnm hpl hA hK1 hK2 hlf
          replace hH := Lib.hid hH
          have ah2 : ha = some aa := hha.out.trans ah
          replace ah := Lib.hid ah
          subst ah2
          have zf : w.heap.size < wr.heap.size := by have := hC.out.hg; have := hC.out.size; omega
          have zs : w.heap.size + 1 < wr.heap.size := by have := hC.out.hg; have := hC.out.size; omega
          obtain ⟨cf0, cf1⟩ := hC.out.toCS0.cells
          have hL := knownH_get s.heaps k H.name
          have hKey := Lib.hid (keyOf_string_mk Try.underlying9 (s := H.name) (Nat.le_trans hnm (by decide)))
          replace hK1 := Lib.hid hK1
          replace hK2 := Lib.hid hK2
          replace hp := Lib.hid hp
          have hba : Hid (Below wr.heap.size wr (wr.alloc (.cells (hcells H) 77))) := (Below.refl _ wr).alloc (Nat.le_refl _) _
          have za : wr.heap.size < (wr.alloc (.cells (hcells H) 77)).heap.size := by simp
          have zfa : w.heap.size < (wr.alloc (.cells (hcells H) 77)).heap.size := by simp; omega
          replace za := Lib.hid za
          cases q1 : hasH s.heaps k H.name with
          | true =>
            rw [q1] at hA hL
            replace hL := Lib.hid hL
            replace hA := Lib.hid hA
            go_wp2_with (at_lookup; refine wp_look _ rfl _ _ 102 rfl 9 4 (string_keyed Try.underlying9) Try.underlying102 (.bool false) (zeroBool _) w5.heap.size k (knownH s.heaps k) rfl (hC.out.map.alloc _) (.string H.name) _ rfl hKey.out _ hL.out ?_)
            go_ret
            exact ⟨by rw [checkS_not hck.out (by rw [hbq.out, allB_stop hlt (by rw [hA.out]; rfl)]; rfl)]; rfl, hCb.out.alloc hCb.out.size _⟩
          | false =>
            rw [q1] at hA hL
            replace hL := Lib.hid hL
            cases q2 : heapB pl H with
            | false =>
              rw [q2] at hA
              replace hA := Lib.hid hA
              replace q2 := Lib.hid q2
              go_wp2_with (first | (at_lookup; refine wp_look _ rfl _ _ 102 rfl 9 4 (string_keyed Try.underlying9) Try.underlying102 (.bool false) (zeroBool _) w5.heap.size k (knownH s.heaps k) rfl (hC.out.map.alloc _) (.string H.name) _ rfl hKey.out _ hL.out ?_) | (go_at_call 62; refine (heaped_any A c pl dry H _ (h.below (hCb.out.alloc hCb.out.size _)) (hp.out.below (hCb.out.alloc hCb.out.size _)) hnm hpl).mono ?_; rintro e w6 ⟨rfl, hb6⟩; rw [q2.out]))
              go_ret
              exact ⟨by rw [checkS_not hck.out (by rw [hbq.out, allB_stop hlt (by rw [hA.out]; rfl)]; rfl)]; rfl, (hCb.out.alloc hCb.out.size _).trans (hb6.mono (hCb.out.alloc hCb.out.size _).size)⟩
            | true =>
              rw [q2] at hA
              replace hA := Lib.hid hA
              replace q2 := Lib.hid q2
              have hmild := Lib.hid (proper_mild (heapB_proper q2.out) hpl)
              have hin := Lib.hid (proper_in (heapB_proper q2.out))
              have hmf : Hid (∀ i : Nat, 0 ≤ ofL s.used i + ofL s.waste i + leftL (s.heaps.take k) i ∧ ofL s.used i + ofL s.waste i + leftL (s.heaps.take k) i ≤ 1000000000000000) := fun i => mild_fields m5.out m6.out (by omega) (mild_taken hk hh hall.out) i
              go_wp2_with (first | (at_lookup; refine wp_look _ rfl _ _ 102 rfl 9 4 (string_keyed Try.underlying9) Try.underlying102 (.bool false) (zeroBool _) w5.heap.size k (knownH s.heaps k) rfl (hC.out.map.alloc _) (.string H.name) _ rfl hKey.out _ hL.out ?_) | (go_at_call 62; refine (heaped_any A c pl dry H _ (h.below (hCb.out.alloc hCb.out.size _)) (hp.out.below (hCb.out.alloc hCb.out.size _)) hnm hpl).mono ?_; rintro e w6 ⟨rfl, hb6⟩; rw [q2.out]; obtain ⟨r6, s6⟩ := bcell hb6; have hC6 := Lib.hid ((hC.out.later hba.out).later hb6); have z6 := Lib.hid (Nat.lt_of_lt_of_le za.out hb6.size)) | (at_mapUpdate; refine wp_store _ rfl _ _ _ 102 (.inl rfl) 9 4 (string_keyed Try.underlying9) Try.underlying102 w5.heap.size k (knownH s.heaps k) rfl hC6.out.map (.string H.name) _ _ rfl rfl hKey.out (knownH s.heaps (k + 1)) hK1.out (fun x _ _ hx => hK2.out x hx) ?_; intro w7 hm7 hg7; have hC7 := Lib.hid (hC6.out.put hm7 hg7); obtain ⟨_, _, _, x7, _, _, _⟩ := seven_cells ((hg7.block _ z6.out (fun e => Nat.lt_irrefl _ (Option.some.inj e ▸ hC.out.map.lt))).trans ((hb6.block _ za.out).trans (heap_new _ _ _ rfl)))) | (go_at_call 61; refine (hC7.out.count_any _ _ H.parts hp.out hmild.out hin.out hmf.out hlen6.out).mono ?_; rintro e w8 ⟨rfl, hC8⟩; have hC8 := Lib.hid hC8))
              refine ⟨⟨k + 1, by go_num, by omega, succ_all hall.out (by rw [hA.out]; rfl), hC8.out.ext (fun i => ?_)⟩, by simp only [intOf]; omega⟩
              show _ = ofL s.used i + ofL s.waste i + leftL (s.heaps.take (k + 1)) i
              rw [hlf.out i, Int.add_assoc]
        · have hke : k = s.heaps.length := by omega
          subst hke
          have hC' := hC.out.ext (f' := fieldSum s) (fun i => by rw [List.take_length]; rfl)
          have hFB := fun i : Nat => mild_fields m5.out m6.out (by omega) (mild_taken hk hh hall.out) i
          rw [List.take_length] at hFB
          have hFS : ∀ i : Nat, 0 ≤ fieldSum s i ∧ fieldSum s i ≤ 1000000000000000 := hFB
          replace hFS := Lib.hid hFS
          have hT : sumN (fieldSum s) pl.length = totalS s := fieldSum_total t5.out t6.out hall.out
          replace hT := Lib.hid hT
          have hC' := Lib.hid hC'.toCS0
          clear hFB hk hlt
          obtain ⟨wo, rfl⟩ : ∃ x, x = wr := ⟨wr, rfl⟩
          go_wp2
          go_loopw [10, 100] (fun a v wx => ∃ j : Nat, v = .int .i64 j ∧ a = .int .i64 (sumN (fieldSum s) j) ∧ j ≤ pl.length ∧ Hid (∀ x, x < j → fieldAt s x = true) ∧ Hid (CS0 w A c pl dry s w3.heap.size (fieldSum s) wx)) (fun _ v _ => pl.length - (intOf v).toNat)
          case atStart => exact ⟨0, rfl, rfl, Nat.zero_le _, (fun j hj => absurd hj (Nat.not_lt_zero _)), hC'⟩
          case round =>
            obtain ⟨j, rfl, rfl, hj, hfa, hCx⟩ := hrel
            have hCb := Lib.hid hCx.out.below
            obtain ⟨sb1, sb2⟩ := sumN_bounds hFS.out j
            by_cases hlt2 : j < pl.length
            · obtain ⟨x0, x1, x2, _, _, _⟩ := six_cells hCx.out.store
              have c1 : wr.cell? ⟨w3.heap.size, j, none⟩ = some (.int .i64 (fieldSum s j)) := cell_cnt hCx.out.row hlt2
              have c2 : wr.cell? ((⟨w3.heap.size, 0, none⟩ : Addr).add j) = some (.int .i64 (fieldSum s j)) := by rw [lit_add]; exact c1
              have hjg : j < s.given.length := by rw [t3.out]; exact hlt2
              have hjl : j < s.last.length := by rw [t2.out]; exact hlt2
              obtain ⟨ag, hag, gg⟩ := (FlatRow.below hs.given hCb.out).at1 hjg rfl
              obtain ⟨al, hal, gl⟩ := (FlatRow.below hs.last hCb.out).at1 hjl rfl
              rw [hag] at x2
              rw [hal] at x1
              have hFa : fieldAt s j = (inB s.last[j] (-1) s.year && decide (s.given[j] = fieldSum s j)) := by
                unfold fieldAt; rw [getD_lt _ hjg, getD_lt _ hjl]
                congr 2
                unfold fieldSum
                rw [eq_iff_iff]; omega
              obtain ⟨fb1, fb2⟩ := hFS.out j
              obtain ⟨fj, hfj⟩ : ∃ fj, fj = fieldSum s j := ⟨_, rfl⟩
              have hsum : sumN (fieldSum s) (j + 1) = sumN (fieldSum s) j + fj := by rw [hfj]; rfl
              obtain ⟨gj, hgj⟩ : ∃ gj, gj = s.given[j] := ⟨_, rfl⟩
              obtain ⟨lj, hlj⟩ : ∃ lj, lj = s.last[j] := ⟨_, rfl⟩
              rw [← hfj] at c1 c2 hFa fb1 fb2
              rw [← hgj] at gg hFa
              rw [← hlj] at gl hFa
              replace hfj := Lib.hid hfj
              replace hgj := Lib.hid hgj
              replace hlj := Lib.hid hlj
              replace hag := Lib.hid hag
              replace hal := Lib.hid hal
              replace hsum := Lib.hid hsum
              have hq : ∀ W, Calls Try.prog 43 #[.int .i64 lj, .int .i64 (-1), .int .i64 s.year] W fun e w' => e = .returned (.bool (inB lj (-1) s.year)) ∧ w' = W := fun W => (in_any _ _ _ _).mono fun _ _ ⟨a, b⟩ => ⟨a, b.symm⟩
              by_cases hgf : gj = fj
              · have bb : (gj != fj) = false := by rw [hgf]; simp
                cases hin : inB lj (-1) s.year with
                | false =>
                  rw [hin] at hq hFa
                  replace hFa := Lib.hid hFa
                  replace hgf := Lib.hid hgf
                  go_wp2
                  go_big_quiet ((go_at_call 43; exact Calls.quiet_of_same (hq _)))
                  go_wp2
                  go_ret
                  exact ⟨by rw [checkS_not hck.out (by rw [hbq.out, allB_stop hlt2 (by rw [hFa.out, Bool.false_and]), Bool.and_false])]; rfl, hCb.out.trans (below_drewN_ _ _)⟩
                | true =>
                  rw [hin] at hq hFa
                  replace hFa := Lib.hid hFa
                  replace hgf := Lib.hid hgf
                  go_wp2
                  go_big_quiet ((go_at_call 43; exact Calls.quiet_of_same (hq _)))
                  go_wp2
                  exact ⟨⟨j + 1, by go_num, by rw [hsum.out], by omega, succ_all hfa.out (by rw [hFa.out, decide_eq_true hgf.out]; rfl), hCx.out.later (below_drewN_ _ _)⟩, by simp only [intOf]; omega⟩
              · have bb : (gj != fj) = true := bne_iff_ne.2 hgf
                replace hgf := Lib.hid hgf
                replace hFa := Lib.hid hFa
                go_wp2
                go_big_quiet (fail)
                go_wp2
                go_ret
                exact ⟨by rw [checkS_not hck.out (by rw [hbq.out, allB_stop hlt2 (by rw [hFa.out, decide_eq_false hgf.out, Bool.and_false]), Bool.and_false])]; rfl, hCb.out.trans (below_drewN_ _ _)⟩
            · have hje : j = pl.length := by omega
              subst hje
              by_cases htt : totalS s ≤ 100000
              · have ht2 : sumN (fieldSum s) pl.length ≤ 100000 := by rw [hT.out]; exact htt
                replace htt := Lib.hid htt
                go_wp2
                go_ret
                exact ⟨by rw [checkS_ok hck.out (by rw [hbq.out, allB_end hall.out, decide_eq_true htt.out, allB_end hfa.out]; rfl)]; rfl, hCb.out⟩
              · have ht2 : 100000 < sumN (fieldSum s) pl.length := by rw [hT.out]; omega
                replace htt := Lib.hid htt
                go_wp2
                go_ret
                exact ⟨by rw [checkS_not hck.out (by rw [hbq.out, decide_eq_false (by have := htt.out; omega), Bool.and_false, Bool.false_and])]; rfl, hCb.out⟩
  · have hcb : (ck != 0) = true := bne_iff_ne.2 hc0
    have hst : Hid (checkS pl dry s = ck) := by unfold Hid; rw [hck]; exact checkS_bad (hck ▸ hc0)
    replace hck := Lib.hid hck
    clear hc0
    go_enter Try.func28, Try.ntmps28
    go_wp2_with fail
    rw [← hW0]
    replace hW0 := Lib.hid hW0
    go_wp2_with (go_at_call 25; refine hca.out.mono ?_; rintro e w1 ⟨rfl, hb1⟩)
    go_ret
    exact ⟨by rw [hst.out]; rfl, hb0.out.trans (hb1.mono hb0.out.size)⟩
end Go.Proofs.Ytpgkhlpepckfgaa
