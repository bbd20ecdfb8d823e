/-
  The law StrawSwapped, walked.
-/
import Derived.Test.YtpgkhlpepckfgaaXu00
import Derived.Deep.AppendLies
set_option linter.all false
set_option linter.unusedVariables false
set_option linter.unusedSimpArgs false
namespace Go.Proofs.Ytpgkhlpepckfgaa
open Go.RowKit Go.Lib

set_option maxHeartbeats 4000000 in
set_option maxRecDepth 100000 in
theorem swap_any (A : Option Addr) (c : Nat) (pl : List Plot) (dry : Int) (B : Option Addr) (cb : Nat) (l : List Chore) (n : Need) (w : World) (h : RdPlots w A pl) (hl : RdChores w B l) (hr : ∀ a ∈ l, -9223372036854775808 ≤ a.plot ∧ a.plot ≤ 9223372036854775807) :
    Calls Try.prog 14 #[.agg #[.slice A pl.length c, .int .i64 dry], .slice B l.length cb, .agg #[.int .i64 n.reed, .int .i64 n.straw, .int .i64 n.heather]] w fun e w' => e = .returned (.bool true) ∧ Below w.heap.size w w' := by
  obtain ⟨W0, hW0⟩ : ∃ W0, W0 = ((w.alloc (.cells #[.slice A pl.length c, .int .i64 dry] 24)).alloc (.cells #[.int .i64 n.reed, .int .i64 n.straw, .int .i64 n.heather] 26)) := ⟨_, rfl⟩
  have hX0 : Hid (SwF w A c pl dry n W0) := by rw [hW0]; exact SwF.make
  obtain ⟨p0, p1⟩ := cells2 hX0.out.farm
  obtain ⟨ck, hck⟩ : ∃ ck, ck = checkI pl dry := ⟨_, rfl⟩
  have c25 : Hid (∀ W, SwF w A c pl dry n W → Calls Try.prog 25 #[.agg #[.slice A pl.length c, .int .i64 dry]] W fun e w' => e = .returned (.int .i64 ck) ∧ Below W.heap.size W w') := fun W hW => hck ▸ check_any A c pl dry W (h.below hW.below)
  replace hck := Lib.hid hck
  go_enter Try.func14, Try.ntmps14
  go_upto_region 1 with fail
  rw [← hW0]
  replace hW0 := Lib.hid hW0
  by_cases h40 : 40 < l.length
  · as_aux_lemma =>
      go_wp2_with (first | (go_at_call 16; refine (great_any _ _ pl _ _ (h.below hX0.out.below)).mono ?_; rintro e w1 ⟨⟨b, rfl, hgr⟩, hb1⟩; have hX1 := Lib.hid (hX0.out.later hb1)) | (go_at_call 39; refine (long_any _ _ l _ (hl.below hX1.out.below)).mono ?_; rintro e w2 ⟨⟨b2, rfl, hlg⟩, hb2⟩; have hX2 := Lib.hid (hX1.out.later hb2)) | (go_at_call 17; refine (lives_any _).mono ?_; rintro e wL ⟨rfl, hbL⟩))
      all_goals go_ret
      all_goals first
        | exact ⟨rfl, (hX2.out.later hbL).below⟩
        | exact ⟨rfl, (hX1.out.later hbL).below⟩
  by_cases h0 : ck = 0
  rotate_left
  · as_aux_lemma =>
      have h0b : (ck != 0) = true := by simpa using h0
      go_wp2_with (first | (go_at_call 16; refine (great_any _ _ pl _ _ (h.below hX0.out.below)).mono ?_; rintro e w1 ⟨⟨b, rfl, hgr⟩, hb1⟩; have hX1 := Lib.hid (hX0.out.later hb1)) | (go_at_call 39; refine (long_any _ _ l _ (hl.below hX1.out.below)).mono ?_; rintro e w2 ⟨⟨b2, rfl, hlg⟩, hb2⟩; have hX2 := Lib.hid (hX1.out.later hb2); obtain ⟨k0, k1⟩ := cells2 hX2.out.farm) | (go_at_call 25; (with_reducible refine (c25.out _ hX2.out).mono ?_); rintro e w3 ⟨rfl, hb3⟩; have hX3 := Lib.hid (hX2.out.later hb3)) | (go_at_call 17; refine (lives_any _).mono ?_; rintro e wL ⟨rfl, hbL⟩))
      all_goals go_ret
      all_goals first
        | exact ⟨rfl, (hX3.out.later hbL).below⟩
        | exact ⟨rfl, (hX2.out.later hbL).below⟩
        | exact ⟨rfl, (hX1.out.later hbL).below⟩
  have hci : checkI pl dry = 0 := hck.out.symm.trans h0
  have hp12 := (checkI_zero hci).1
  subst h0
  go_wp2_with (first | (go_at_call 16; refine (great_any _ _ pl _ _ (h.below hX0.out.below)).mono ?_; rintro e w1 ⟨⟨b, rfl, hgr⟩, hb1⟩; have hX1 := Lib.hid (hX0.out.later hb1)) | (go_at_call 39; refine (long_any _ _ l _ (hl.below hX1.out.below)).mono ?_; rintro e w2 ⟨⟨b2, rfl, hlg⟩, hb2⟩; have hX2 := Lib.hid (hX1.out.later hb2); obtain ⟨k0, k1⟩ := cells2 hX2.out.farm) | (go_at_call 25; (with_reducible refine (c25.out _ hX2.out).mono ?_); rintro e w3 ⟨rfl, hb3⟩; have hX3 := Lib.hid (hX2.out.later hb3); obtain ⟨j0, j1⟩ := cells2 hX3.out.farm) | (go_at_call 17; refine (lives_any _).mono ?_; rintro e wL ⟨rfl, hbL⟩))
  · go_ret
    exact ⟨rfl, (hX1.out.later hbL).below⟩
  · go_ret
    exact ⟨rfl, (hX2.out.later hbL).below⟩
  clear p0 p1 k0 k1 hb1 hb2 hb3 c25 hgr hlg
  go_upto_region 5 with fail
  obtain ⟨wo, hwo⟩ : ∃ x, x = w3.alloc (.cells #[.slice none 0 0, .int .i64 dry] 24) := ⟨_, rfl⟩
  obtain ⟨bo, hbo⟩ : ∃ x, x = w3.heap.size := ⟨_, rfl⟩
  rw [← hwo, ← hbo]
  have hO : Hid (SwO w A c pl dry n bo (.slice none 0 0) [] wo) := by rw [hwo, hbo]; exact SwO.start hX3.out
  have hbo2 : w.heap.size + 2 ≤ bo := by rw [hbo]; exact hX3.out.size
  clear hX0 hX1 hX2 hX3 j0 j1
  replace hwo := Lib.hid hwo
  replace hbo := Lib.hid hbo
  have hw1 : IntKind.i64.wrap ((pl.length : Int) - 1) = (pl.length : Int) - 1 := IntWalk.i64_in _ (by omega)
  go_wp2_with fail
  go_loopw [9] (fun i wr => ∃ (k : Nat) (j : Int) (v : Value), i = .int .i64 j ∧ j + k + 1 = pl.length ∧ -1 ≤ j ∧ Hid (SwO w A c pl dry n bo v (pl.reverse.take k) wr)) (fun i _ => (intOf i + 1).toNat)
  case atStart => exact ⟨0, _, _, rfl, by omega, by omega, by rw [List.take_zero]; exact hO⟩
  case round =>
    obtain ⟨k, j, v, rfl, hjk, hj, hR⟩ := hrel
    by_cases hj0 : 0 ≤ j
    · obtain ⟨m, rfl⟩ : ∃ m : Nat, j = (m : Int) := ⟨j.toNat, by omega⟩
      have hml : m < pl.length := by omega
      have hkl : (pl.reverse.take k).length = k := by rw [List.length_take, List.length_reverse]; omega
      obtain ⟨A1, c1, rfl⟩ := hR.row.slice
      replace hR := hR
      rw [hkl] at hR
      obtain ⟨ad, hA, _⟩ := (FlatRow.below h.1 hR.sw.below).at9 hml rfl
      obtain ⟨P, hP⟩ : ∃ P, P = pl[m] := ⟨_, rfl⟩
      have hts : Hid (pl.reverse.take (k + 1) = pl.reverse.take k ++ [P]) := by
        unfold Hid
        rw [List.take_succ_eq_append_getElem (by rw [List.length_reverse]; omega), List.getElem_reverse]
        have e : pl.length - 1 - k = m := by omega
        simp only [e, hP]
      subst hA
      have hcl : Hid (∀ W, SwF w (some ad) c pl dry n W → W.cell? ⟨w.heap.size, 0, none⟩ = some (.slice (some ad) pl.length c) ∧ W.cell? (ad.add (m * 9)) = some (.string P.name) ∧ W.cell? ⟨(ad.add (m * 9)).block, (ad.add (m * 9)).off + 1, none⟩ = some (.int .i64 P.crop) ∧ W.cell? ⟨(ad.add (m * 9)).block, (ad.add (m * 9)).off + 2, none⟩ = some (.int .i64 P.size) ∧ W.cell? ⟨(ad.add (m * 9)).block, (ad.add (m * 9)).off + 3, none⟩ = some (.int .i64 P.yield.lo) ∧ W.cell? ⟨(ad.add (m * 9)).block, (ad.add (m * 9)).off + 4, none⟩ = some (.int .i64 P.yield.hi) ∧ W.cell? ⟨(ad.add (m * 9)).block, (ad.add (m * 9)).off + 5, none⟩ = some (.int .i64 P.rest) ∧ W.cell? ⟨(ad.add (m * 9)).block, (ad.add (m * 9)).off + 6, none⟩ = some (.int .i64 P.wet.lo) ∧ W.cell? ⟨(ad.add (m * 9)).block, (ad.add (m * 9)).off + 7, none⟩ = some (.int .i64 P.wet.hi) ∧ W.cell? ⟨(ad.add (m * 9)).block, (ad.add (m * 9)).off + 8, none⟩ = some (.int .i64 P.cost)) := fun W hW => by
        obtain ⟨ad', hA', y0, y1, y2, y3, y4, y5, y6, y7, y8⟩ := (FlatRow.below h.1 hW.below).at9 hml rfl
        cases hA'
        rw [← hP] at y0 y1 y2 y3 y4 y5 y6 y7 y8
        exact ⟨(cells2 hW.farm).1, y0, y1, y2, y3, y4, y5, y6, y7, y8⟩
      have hcl2 : Hid (∀ W, SwQ w (some ad) c pl dry n bo (.slice A1 k c1) W → W.cell? ⟨bo, 0, none⟩ = some (.slice A1 k c1) ∧ W.cell? ⟨w.heap.size, 0, none⟩ = some (.slice (some ad) pl.length c) ∧ W.cell? (ad.add (m * 9)) = some (.string P.name) ∧ W.cell? ⟨(ad.add (m * 9)).block, (ad.add (m * 9)).off + 1, none⟩ = some (.int .i64 P.crop) ∧ W.cell? ⟨(ad.add (m * 9)).block, (ad.add (m * 9)).off + 2, none⟩ = some (.int .i64 P.size) ∧ W.cell? ⟨(ad.add (m * 9)).block, (ad.add (m * 9)).off + 3, none⟩ = some (.int .i64 P.yield.lo) ∧ W.cell? ⟨(ad.add (m * 9)).block, (ad.add (m * 9)).off + 4, none⟩ = some (.int .i64 P.yield.hi) ∧ W.cell? ⟨(ad.add (m * 9)).block, (ad.add (m * 9)).off + 5, none⟩ = some (.int .i64 P.rest) ∧ W.cell? ⟨(ad.add (m * 9)).block, (ad.add (m * 9)).off + 6, none⟩ = some (.int .i64 P.wet.lo) ∧ W.cell? ⟨(ad.add (m * 9)).block, (ad.add (m * 9)).off + 7, none⟩ = some (.int .i64 P.wet.hi) ∧ W.cell? ⟨(ad.add (m * 9)).block, (ad.add (m * 9)).off + 8, none⟩ = some (.int .i64 P.cost)) := fun W hW => ⟨(cells2 hW.o).1, hcl.out W hW.sw⟩
      replace hP := Lib.hid hP
      have hO1 : Hid (SwO w (some ad) c pl dry n bo (.slice A1 k c1) (pl.reverse.take k) wr.drew) := hR.later ((Below.refl _ wr).drew)
      have hz63 : Hid (k + 1 ≤ maxLen) := by unfold Hid maxLen; omega
      have hzby : Hid ((k + 1) * 80 ≤ 140737488355328) := by unfold Hid; omega
      obtain ⟨i0, hi0, hz0', hs0, hb0⟩ := info_parts info88
      go_upto_region 8 with fail
      obtain ⟨wq, hwq⟩ : ∃ x, x = wr.drew := ⟨_, rfl⟩
      rw [← hwq] at hO1
      refine wp_region_tree (SwQ w (some ad) c pl dry n bo (.slice A1 k c1)) (.pure 0 (.read 1 (.pure 2 (.read 3 (.pure 4 (.pure 5 (.read 6 (.one 7 (.one 8 (.pure 9 (.one 10 .done))))))))))) [10] (by kernel_rfl) (by kernel_rfl) (by rw [← hwq]; exact hO1.out.q) ?_
      rw [← hwq]
      replace hwq := Lib.hid hwq
      have harow : Hid (∀ o, (wq.alloc o).ownsRow (bo + 1) 88 9 (.slice A1 k c1) k ((pl.reverse.take k).flatMap encPlot)) := fun o => by
        have := hO1.out.arow (o := o)
        rw [hkl] at this
        exact this
      refine wpTree_pure (v := ?_) rfl (by rfl) ?_ (fun _ _ _ h => h) ?_
      rotate_left
      focus (intro w'; (try simp only [List.getElem_toArray, List.getElem_cons_zero, List.getElem_cons_succ]); go_simp; try with_reducible rfl)
      (try simp only [List.getElem_toArray, List.getElem_cons_zero, List.getElem_cons_succ, Act.put, List.setIfInBounds_toArray, List.set_cons_zero, List.set_cons_succ])
      refine wpTree_take (v := ?_) rfl (by rfl) ?_ (fun _ _ _ h => h) ?_
      rotate_left
      focus (intro w' hSw; obtain ⟨o0, f0, z0, z1, z2, z3, z4, z5, z6, z7, z8⟩ := hcl2.out _ hSw; clear hSw; (try simp only [List.getElem_toArray, List.getElem_cons_zero, List.getElem_cons_succ]); go_simp; try with_reducible rfl)
      (try simp only [List.getElem_toArray, List.getElem_cons_zero, List.getElem_cons_succ, Act.put, List.setIfInBounds_toArray, List.set_cons_zero, List.set_cons_succ])
      refine wpTree_pure (v := ?_) rfl (by rfl) ?_ (fun _ _ _ h => h) ?_
      rotate_left
      focus (intro w'; (try simp only [List.getElem_toArray, List.getElem_cons_zero, List.getElem_cons_succ]); go_simp; try with_reducible rfl)
      (try simp only [List.getElem_toArray, List.getElem_cons_zero, List.getElem_cons_succ, Act.put, List.setIfInBounds_toArray, List.set_cons_zero, List.set_cons_succ])
      refine wpTree_take (v := ?_) rfl (by rfl) ?_ (fun _ _ _ h => h) ?_
      rotate_left
      focus (intro w' hSw; obtain ⟨o0, f0, z0, z1, z2, z3, z4, z5, z6, z7, z8⟩ := hcl2.out _ hSw; clear hSw; (try simp only [List.getElem_toArray, List.getElem_cons_zero, List.getElem_cons_succ]); go_simp; try with_reducible rfl)
      (try simp only [List.getElem_toArray, List.getElem_cons_zero, List.getElem_cons_succ, Act.put, List.setIfInBounds_toArray, List.set_cons_zero, List.set_cons_succ])
      refine wpTree_pure (v := ?_) rfl (by rfl) ?_ (fun _ _ _ h => h) ?_
      rotate_left
      focus (intro w'; (try simp only [List.getElem_toArray, List.getElem_cons_zero, List.getElem_cons_succ]); go_simp; try with_reducible rfl)
      (try simp only [List.getElem_toArray, List.getElem_cons_zero, List.getElem_cons_succ, Act.put, List.setIfInBounds_toArray, List.set_cons_zero, List.set_cons_succ])
      refine wpTree_pure (v := ?_) rfl (by rfl) ?_ (fun _ _ _ h => h) ?_
      rotate_left
      focus (intro w'; (try simp only [List.getElem_toArray, List.getElem_cons_zero, List.getElem_cons_succ]); go_simp; try with_reducible rfl)
      (try simp only [List.getElem_toArray, List.getElem_cons_zero, List.getElem_cons_succ, Act.put, List.setIfInBounds_toArray, List.set_cons_zero, List.set_cons_succ])
      refine wpTree_take (v := ?_) rfl (by rfl) ?_ (fun _ _ _ h => h) ?_
      rotate_left
      focus (intro w' hSw; obtain ⟨o0, f0, z0, z1, z2, z3, z4, z5, z6, z7, z8⟩ := hcl2.out _ hSw; clear hSw; (try simp only [List.getElem_toArray, List.getElem_cons_zero, List.getElem_cons_succ]); go_simp; try with_reducible rfl)
      (try simp only [List.getElem_toArray, List.getElem_cons_zero, List.getElem_cons_succ, Act.put, List.setIfInBounds_toArray, List.set_cons_zero, List.set_cons_succ])
      refine wpTree_do rfl (by rfl) ?_
      (try simp only [List.getElem_toArray, List.getElem_cons_zero, List.getElem_cons_succ])
      go_simp
      refine ⟨fun h => h.later ((Below.refl _ _).alloc (Nat.le_refl _) _), ?_⟩
      (try simp only [List.getElem_toArray, List.getElem_cons_zero, List.getElem_cons_succ, Act.put, List.setIfInBounds_toArray, List.set_cons_zero, List.set_cons_succ])
      refine wpTree_do rfl (by rfl) ?_
      (try simp only [List.getElem_toArray, List.getElem_cons_zero, List.getElem_cons_succ])
      refine wp_append_lies _ (.tmp 58) (.tmp 64) 22 rfl (bo + 1) 88 i0 (.agg #[.string ByteArray.empty, .int .i64 0, .int .i64 0, .int .i64 0, .int .i64 0, .int .i64 0, .int .i64 0, .int .i64 0, .int .i64 0]) 9 80 Try.underlying22 hi0 hz0' hs0 hb0 rfl (by decide) (.slice A1 k c1) k ((pl.reverse.take k).flatMap encPlot) (by simp [Act.eval]) (harow.out _) ⟨wq.heap.size, 0, none⟩ 1 1 (encPlot P) (by simp [Act.eval]) rfl (new_nine _ _) (by simp [encPlot, Value.oneCell']) (by decide) hz63.out hzby.out hO1.out.base _ rfl ?_
      intro g cap w1 hown hgrow hnear hlt1
      have hQ1 := Lib.hid (hO1.out.grown hbo2 hgrow)
      have hP1 := Lib.hid (hO1.out.push hbo2 (by rw [hkl]; exact hown) hgrow)
      refine ⟨fun _ _ => hQ1.out, ?_⟩
      clear hown hgrow hnear hlt1
      obtain ⟨o0, o1⟩ := cells2 hQ1.out.o
      have fz := frozen_of_row w1 _ 0 _ _ hQ1.out.o
      (try simp only [List.getElem_toArray, List.getElem_cons_zero, List.getElem_cons_succ, Act.put, List.setIfInBounds_toArray, List.set_cons_zero, List.set_cons_succ])
      refine wpTree_pure (v := ?_) rfl (by rfl) ?_ (fun _ _ _ h => h) ?_
      rotate_left
      focus (intro w'; (try simp only [List.getElem_toArray, List.getElem_cons_zero, List.getElem_cons_succ]); go_simp; try with_reducible rfl)
      (try simp only [List.getElem_toArray, List.getElem_cons_zero, List.getElem_cons_succ, Act.put, List.setIfInBounds_toArray, List.set_cons_zero, List.set_cons_succ])
      refine wpTree_do rfl (by rfl) ?_
      (try simp only [List.getElem_toArray, List.getElem_cons_zero, List.getElem_cons_succ])
      go_simp
      (try unfold wpTree)
      (try simp only [List.getElem_toArray, List.getElem_cons_zero, List.getElem_cons_succ, Act.put, List.setIfInBounds_toArray, List.set_cons_zero, List.set_cons_succ])
      have hP2 : Hid (SwO w (some ad) c pl dry n bo (.slice (some ⟨g, 0, none⟩) (k + 1) cap) (pl.reverse.take (k + 1)) (w1.setCell ⟨bo, 0, none⟩ (.slice (some ⟨g, 0, none⟩) (k + 1) cap))) := by unfold Hid; rw [hts.out]; exact hP1.out
      clear hcl hcl2 hO1 hQ1 hP1 fz o0 o1 harow
      have hwm : IntKind.i64.wrap ((m : Int) - 1) = (m : Int) - 1 := IntWalk.i64_in _ (by omega)
      go_wp2_with fail
      exact ⟨⟨k + 1, (m : Int) - 1, _, rfl, by omega, by omega, hP2⟩, by simp only [intOf]; omega⟩
    · have hje : j = -1 := by omega
      subst hje
      have hke : k = pl.length := by omega
      subst hke
      obtain ⟨Ao, co, rfl, hM⟩ : ∃ Ao co, v = .slice Ao pl.length co ∧ SwM w A c pl dry n bo Ao co wr := by
        have hq := hR.out
        rw [show pl.reverse.take pl.length = pl.reverse from List.take_of_length_le (by simp)] at hq
        exact hq.full h.2 hp12
      replace hM := Lib.hid hM
      clear hO hR hj0 hj hjk
      go_wp2_with fail
      obtain ⟨wM, rfl⟩ : ∃ x, x = wr := ⟨wr, rfl⟩
      go_loopw [10, 11] (fun v i wr => ∃ (k : Nat) (v' : Value), v = v' ∧ i = .int .i64 k ∧ k ≤ l.length ∧ Hid (SwB wM v' ((l.take k).map (mirC pl.length)) wr)) (fun _ i _ => l.length - (intOf i).toNat)
      case atStart => exact ⟨0, _, rfl, rfl, Nat.zero_le _, by rw [List.take_zero]; exact SwB.start⟩
      case round =>
        obtain ⟨k, v, hv, rfl, hk, hR⟩ := hrel
        subst hv
        have hlM := hl.below (hM.out.sw.below.trans (hR.out.below.mono hM.out.sw.below.size))
        by_cases hkl : k < l.length
        · have hmk : ((l.take k).map (mirC pl.length)).length = k := by rw [List.length_map, List.length_take]; omega
          obtain ⟨A1, c1, hv1⟩ := hR.out.row.slice
          rw [hmk] at hv1
          subst hv1
          replace hmk := Lib.hid hmk
          obtain ⟨ad, hA, y0, y1, y2, y3, y4, y5, y6, y7, y8⟩ := hlM.1.at9 hkl rfl
          subst hA
          obtain ⟨a, ha⟩ : ∃ a, a = l[k] := ⟨_, rfl⟩
          rw [← ha] at y0 y1 y2 y3 y4 y5 y6 y7 y8
          have har := hr _ (List.getElem_mem hkl)
          rw [← ha] at har
          have hts : Hid ((l.take (k + 1)).map (mirC pl.length) = (l.take k).map (mirC pl.length) ++ [mirC pl.length a]) := by
            unfold Hid
            rw [List.take_succ_eq_append_getElem hkl, List.map_append, ← ha]; rfl
          replace ha := Lib.hid ha
          go_upto_region 14 with fail
          obtain ⟨wa, hwa⟩ : ∃ x, x = wr.alloc (.cells #[.int .i64 a.kind, .int .i64 a.plot, .int .i64 a.loads, .string a.name, .string a.other, .int .i64 a.days, .int .i64 a.per, .int .i64 a.rain.lo, .int .i64 a.rain.hi] 64) := ⟨_, rfl⟩
          obtain ⟨ba, hba⟩ : ∃ x, x = wr.heap.size := ⟨_, rfl⟩
          rw [← hwa, ← hba]
          have hbw : Below wr.heap.size wr wa := by rw [hwa]; exact (Below.refl _ wr).alloc (Nat.le_refl _) _
          have hxa : wa.heap[ba]? = some (cblock a) := by rw [hwa, hba]; exact heap_new _ _ _ rfl
          have hRa := Lib.hid (hR.out.later hbw)
          have hRs : Hid (∀ x, SwB wM (.slice A1 k c1) ((l.take k).map (mirC pl.length)) (wa.setCell ⟨ba, 1, none⟩ x)) := fun x => hR.out.later (hbw.setCell (p := ⟨ba, 1, none⟩) (by show wr.heap.size ≤ ba; omega) x)
          clear y0 y1 y2 y3 y4 y5 y6 y7 y8 hR hlM hbw
          replace hwa := Lib.hid hwa
          replace hba := Lib.hid hba
          obtain ⟨y0, y1, y2, y3, y4, y5, y6, y7, y8⟩ := cells_chore hxa
          have hz63 : Hid (k + 1 ≤ maxLen) := by unfold Hid maxLen; omega
          have hzby : Hid ((k + 1) * 88 ≤ 140737488355328) := by unfold Hid; omega
          by_cases hk2 : a.kind = 2
          · have hk2b : (a.kind == 2) = true := by simpa using hk2
            have fz : ∀ o, wa.frozen? ⟨ba, o, none⟩ = false := fun o => frozen_of_row wa _ o _ _ hxa
            have hma : Hid (mirC pl.length a = plotC a (wrap64 ((pl.length : Int) - 1 - a.plot))) := if_pos hk2
            replace hk2 := Lib.hid hk2
            go_upto_region 16 with fail
            obtain ⟨wb, hwb⟩ : ∃ x, x = wa.setCell ⟨ba, 1, none⟩ (.int .i64 (wrap64 ((pl.length : Int) - 1 - a.plot))) := ⟨_, rfl⟩
            rw [← hwb]
            have hRb : Hid (SwB wM (.slice A1 k c1) ((l.take k).map (mirC pl.length)) wb) := by rw [hwb]; exact hRs.out _
            have hxb : wb.heap[ba]? = some (cblock (mirC pl.length a)) := by rw [hma.out, hwb]; exact set_cells hxa _
            clear fz
            replace hwb := Lib.hid hwb
            obtain ⟨a', ha'⟩ : ∃ a', a' = mirC pl.length a := ⟨_, rfl⟩
            rw [← ha'] at hxb hts
            replace ha' := Lib.hid ha'
            clear y0 y1 y2 y3 y4 y5 y6 y7 y8 hma hxa hRs hRa
            obtain ⟨y0, y1, y2, y3, y4, y5, y6, y7, y8⟩ := cells_chore hxb
            replace hxb := Lib.hid hxb
            have hnew : Hid (∀ j u, (encChore a')[j]? = some u → (wb.alloc (cblock a')).cell? ((⟨wb.heap.size, 0, none⟩ : Addr).add j) = some u) := new_nineC wb a'
            have harow : Hid ((wb.alloc (cblock a')).ownsRow wM.heap.size 64 9 (.slice A1 k c1) k (((l.take k).map (mirC pl.length)).flatMap encChore)) := by
              have := (hRb.out.later ((Below.refl _ _).alloc (Nat.le_refl _) (cblock a'))).row
              unfold NRow at this
              rw [hmk.out] at this
              exact this
            have hbase : Hid (wM.heap.size ≤ (wb.alloc (cblock a')).heap.size) := by unfold Hid; rw [World.size_alloc]; have := hRb.out.below.size; omega
            go_wp2_with (at_builtin; refine wp_app _ rfl (.tmp 86) (.tmp 88) 68 rfl wM.heap.size 64 9 88 Try.underlying68 info64 rfl (by decide) _ _ _ rfl harow.out ⟨wb.heap.size, 0, none⟩ 1 1 (encChore a') rfl rfl hnew.out (by simp [encChore, Value.oneCell']) hz63.out hzby.out hbase.out ?_; intro v' w1 hown hgrow hnear; have hP := Lib.hid (hRb.out.push (a := a') (by rw [hmk.out]; exact hown) hgrow); clear hown hgrow hnear)
            exact ⟨⟨k + 1, _, rfl, by go_num, by omega, by unfold Hid; rw [hts.out]; exact hP.out⟩, by simp only [intOf]; omega⟩
          · have hk2b : (a.kind == 2) = false := by simpa using hk2
            have hma : Hid (mirC pl.length a = a) := if_neg hk2
            replace hk2 := Lib.hid hk2
            go_upto_region 16 with fail
            obtain ⟨wb, hwb⟩ : ∃ x, x = wa := ⟨_, rfl⟩
            rw [← hwb]
            have hRb : Hid (SwB wM (.slice A1 k c1) ((l.take k).map (mirC pl.length)) wb) := by rw [hwb]; exact hRa.out
            have hxb : wb.heap[ba]? = some (cblock (mirC pl.length a)) := by rw [hma.out, hwb]; exact hxa
            replace hwb := Lib.hid hwb
            obtain ⟨a', ha'⟩ : ∃ a', a' = mirC pl.length a := ⟨_, rfl⟩
            rw [← ha'] at hxb hts
            replace ha' := Lib.hid ha'
            clear y0 y1 y2 y3 y4 y5 y6 y7 y8 hma hxa hRs hRa
            obtain ⟨y0, y1, y2, y3, y4, y5, y6, y7, y8⟩ := cells_chore hxb
            replace hxb := Lib.hid hxb
            have hnew : Hid (∀ j u, (encChore a')[j]? = some u → (wb.alloc (cblock a')).cell? ((⟨wb.heap.size, 0, none⟩ : Addr).add j) = some u) := new_nineC wb a'
            have harow : Hid ((wb.alloc (cblock a')).ownsRow wM.heap.size 64 9 (.slice A1 k c1) k (((l.take k).map (mirC pl.length)).flatMap encChore)) := by
              have := (hRb.out.later ((Below.refl _ _).alloc (Nat.le_refl _) (cblock a'))).row
              unfold NRow at this
              rw [hmk.out] at this
              exact this
            have hbase : Hid (wM.heap.size ≤ (wb.alloc (cblock a')).heap.size) := by unfold Hid; rw [World.size_alloc]; have := hRb.out.below.size; omega
            go_wp2_with (at_builtin; refine wp_app _ rfl (.tmp 86) (.tmp 88) 68 rfl wM.heap.size 64 9 88 Try.underlying68 info64 rfl (by decide) _ _ _ rfl harow.out ⟨wb.heap.size, 0, none⟩ 1 1 (encChore a') rfl rfl hnew.out (by simp [encChore, Value.oneCell']) hz63.out hzby.out hbase.out ?_; intro v' w1 hown hgrow hnear; have hP := Lib.hid (hRb.out.push (a := a') (by rw [hmk.out]; exact hown) hgrow); clear hown hgrow hnear)
            exact ⟨⟨k + 1, _, rfl, by go_num, by omega, by unfold Hid; rw [hts.out]; exact hP.out⟩, by simp only [intOf]; omega⟩
        · have hke : k = l.length := by omega
          subst hke
          obtain ⟨B2, c2, rfl, hbk⟩ : ∃ B2 c2, u10 = .slice B2 l.length c2 ∧ RdChores wr B2 (l.map (mirC pl.length)) := by
            have hq := hR.out.row
            rw [List.take_length] at hq
            obtain ⟨B2, c2, e, hq2⟩ := hq.reads (fun _ => rfl) (by rw [List.length_map]; omega)
            rw [List.length_map] at e
            exact ⟨B2, c2, e, hq2, fun a ha => by
              obtain ⟨b, hb, rfl⟩ := List.mem_map.1 ha
              exact mirC_well (hl.2 b hb)⟩
          have hM1 := Lib.hid (hM.out.later hR.out.below)
          have hci' := plots_mir hci
          have hnm := new_mir hci
          have hcN := new_check hci
          have hrun := run_mir l (newS pl dry) hr hcN
          rw [← hnm] at hrun
          obtain ⟨R, x0, e0, hR0⟩ : ∃ R x0 e0, runL pl dry (newS pl dry) l = (R, x0, e0) := ⟨_, _, _, rfl⟩
          rw [hR0] at hrun
          dsimp only at hrun
          have hcR : checkS pl dry R = 0 := by have := runL_check l _ hcN; rw [hR0] at this; exact this
          have hcR' := check_mir hcR
          have c23f : Hid (∀ W, SwM w A c pl dry n bo Ao co W → Calls Try.prog 23 #[.agg #[.slice A pl.length c, .int .i64 dry]] W fun e w' => ∃ t : Store, e = .returned (.tuple #[storeVal t, .int .i64 0]) ∧ RdStore w' t ∧ SameC t (newS pl dry) ∧ Below W.heap.size W w') := fun W hW => (new_okayF A c pl dry W (h.below hW.sw.below) hci.symm).mono fun e w' ⟨t, q1, q2, q3, q4, _⟩ => ⟨t, by rw [q1, hci], q2, new_same q3, q4⟩
          have c23o : Hid (∀ W, SwM w A c pl dry n bo Ao co W → Calls Try.prog 23 #[.agg #[.slice Ao pl.length co, .int .i64 dry]] W fun e w' => ∃ t : Store, e = .returned (.tuple #[storeVal t, .int .i64 0]) ∧ RdStore w' t ∧ SameC t (newS pl.reverse dry) ∧ Below W.heap.size W w' ∧ FreshS W.heap.size t) := fun W hW => by
            have := new_okayF Ao co pl.reverse dry W hW.rd hci'.symm
            rw [List.length_reverse] at this
            exact this.mono fun e w' ⟨t, q1, q2, q3, q4, q5⟩ => ⟨t, by rw [q1, hci'], q2, new_same q3, q4, q5⟩
          have lens : ∀ {p : List Plot} {t s : Store}, checkS p dry s = 0 → SameC t s → t.used.length ≤ 1000000 ∧ t.waste.length ≤ 1000000 ∧ ∀ x ∈ t.heaps, x.parts.length ≤ 1000000 := fun {p t s} hc hs => by
            rw [← hs.checkS p dry] at hc
            obtain ⟨e1, e2, e3⟩ := (check_ok hc).lens
            exact ⟨by omega, by omega, fun x hx => by have := e3 x hx; omega⟩
          have c38f : Hid (∀ W s, SwM w A c pl dry n bo Ao co W → RdStore W s → SameC s (newS pl dry) → Calls Try.prog 38 #[.agg #[.slice A pl.length c, .int .i64 dry], storeVal s, .slice B l.length cb] W fun e w' => ∃ u, e = .returned (.tuple #[storeVal u, .int .i64 x0, .int .i64 e0]) ∧ SameC u R ∧ RdStore w' u ∧ Below W.heap.size W w' ∧ FreshS W.heap.size u) := fun W s hW hs hq => by
            obtain ⟨l1, l2, l3⟩ := lens hcN hq
            refine (run_any A c pl dry s B cb l W (h.below hW.sw.below) hs (hl.below hW.sw.below) l1 l2 l3).mono fun e w' ho => RunOut.same (r' := (R, x0, e0)) ho ?_
            have : runP pl dry (newS pl dry) l = (R, x0, e0) := by unfold runP; rw [if_neg (by simp [hcN]), if_neg (by omega), hR0]
            rw [← this]
            exact hq.runP l
          have hcN' : checkS pl.reverse dry (newS pl.reverse dry) = 0 := new_check hci'
          have c38o : Hid (∀ W t, SwM w A c pl dry n bo Ao co W → RdChores W B2 (l.map (mirC pl.length)) → RdStore W t → SameC t (newS pl.reverse dry) → Calls Try.prog 38 #[.agg #[.slice Ao pl.length co, .int .i64 dry], storeVal t, .slice B2 l.length c2] W fun e w' => ∃ u, e = .returned (.tuple #[storeVal u, .int .i64 x0, .int .i64 e0]) ∧ SameC u (mirS pl.length R) ∧ RdStore w' u ∧ Below W.heap.size W w' ∧ FreshS W.heap.size u) := fun W t hW hb hs hq => by
            obtain ⟨l1, l2, l3⟩ := lens hcN' hq
            have hc := run_any Ao co pl.reverse dry t B2 c2 (l.map (mirC pl.length)) W hW.rd hs hb l1 l2 l3
            rw [List.length_reverse, List.length_map] at hc
            refine hc.mono fun e w' ho => RunOut.same (r' := (mirS pl.length R, x0, e0)) ho ?_
            have : runP pl.reverse dry (newS pl.reverse dry) (l.map (mirC pl.length)) = (mirS pl.length R, x0, e0) := by unfold runP; rw [if_neg (by simp [hcN']), if_neg (by rw [List.length_map]; omega), hrun]
            rw [← this]
            exact hq.runP _
          have c30f : Hid (∀ W u, SwM w A c pl dry n bo Ao co W → RdStore W u → SameC u R → Calls Try.prog 30 #[.agg #[.slice A pl.length c, .int .i64 dry], storeVal u] W fun e w' => ∃ a ca, e = .returned (.tuple #[.slice a pl.length ca, .int .i64 0]) ∧ RdCnts w' a (cntsL R pl.length) ∧ Below W.heap.size W w') := fun W u hW hu hq => by
            obtain ⟨l1, l2, l3⟩ := lens hcR hq
            have hc := ledger_any A c pl dry u W (h.below hW.sw.below) hu l1 l2 l3
            rw [ledP_ok ((hq.checkS pl dry).trans hcR), cntsL_same hq] at hc
            exact hc.mono fun e w' ⟨a, ca, q1, q2, q3⟩ => ⟨a, ca, by rw [q1, cntsL_len], q2, q3⟩
          have c30o : Hid (∀ W u, SwM w A c pl dry n bo Ao co W → RdStore W u → SameC u (mirS pl.length R) → Calls Try.prog 30 #[.agg #[.slice Ao pl.length co, .int .i64 dry], storeVal u] W fun e w' => ∃ a ca, e = .returned (.tuple #[.slice a pl.length ca, .int .i64 0]) ∧ RdCnts w' a (cntsL (mirS pl.length R) pl.length) ∧ Below W.heap.size W w') := fun W u hW hu hq => by
            obtain ⟨l1, l2, l3⟩ := lens hcR' hq
            have hc := ledger_any Ao co pl.reverse dry u W hW.rd hu l1 l2 l3
            rw [ledP_ok ((hq.checkS pl.reverse dry).trans hcR'), cntsL_same hq, List.length_reverse] at hc
            exact hc.mono fun e w' ⟨a, ca, q1, q2, q3⟩ => ⟨a, ca, by rw [q1, cntsL_len], q2, q3⟩
          have hled : Hid (∀ i j, i + j + 1 = pl.length → cntAt (mirS pl.length R) i = cntAt R j) := fun i j hij => led_mir (check_ok hcR) hij
          obtain ⟨ch1, ch2, ch3⟩ := choose_mir hci n
          obtain ⟨co0, hco0⟩ : ∃ x, x = (chooseP pl dry n).1.cost := ⟨_, rfl⟩
          obtain ⟨fo0, hfo0⟩ : ∃ x, x = (chooseP pl dry n).1.found := ⟨_, rfl⟩
          obtain ⟨er0, her0⟩ : ∃ x, x = (chooseP pl dry n).2 := ⟨_, rfl⟩
          have c18f : Hid (∀ W, SwM w A c pl dry n bo Ao co W → Calls Try.prog 18 #[.agg #[.slice A pl.length c, .int .i64 dry], .agg #[.int .i64 n.reed, .int .i64 n.straw, .int .i64 n.heather]] W fun e w' => ∃ a m ca, e = .returned (.tuple #[.slice a m ca, .int .i64 co0, .bool fo0, .int .i64 er0]) ∧ Below W.heap.size W w') := fun W hW => by
            refine (choose_any A c pl dry n W (h.below hW.sw.below)).mono ?_
            rintro e w' ⟨a, ca, rfl, _, q3⟩
            exact ⟨a, _, ca, by rw [hco0, hfo0, her0], q3⟩
          have c18o : Hid (∀ W, SwM w A c pl dry n bo Ao co W → Calls Try.prog 18 #[.agg #[.slice Ao pl.length co, .int .i64 dry], .agg #[.int .i64 n.reed, .int .i64 n.straw, .int .i64 n.heather]] W fun e w' => ∃ a m ca, e = .returned (.tuple #[.slice a m ca, .int .i64 co0, .bool fo0, .int .i64 er0]) ∧ Below W.heap.size W w') := fun W hW => by
            have hc := choose_any Ao co pl.reverse dry n W hW.rd
            rw [List.length_reverse] at hc
            refine hc.mono ?_
            rintro e w' ⟨a, ca, rfl, _, q3⟩
            exact ⟨a, _, ca, by rw [ch1, ch2, ch3, hco0, hfo0, her0], q3⟩
          replace hbk := Lib.hid hbk
          clear hR hrun hR0 hcR hcR' hcN hcN' hnm hci' hci ch1 ch2 ch3 hco0 hfo0 her0 lens hk hkl hlM hM hr
          obtain ⟨w3, rfl⟩ : ∃ x, x = wr := ⟨wr, rfl⟩
          obtain ⟨k0, k1⟩ := cells2 hM1.out.sw.farm
          go_wp2_with fail
          go_at_call 23
          (with_reducible refine (c23f.out _ hM1.out).mono ?_)
          rintro e w4 ⟨s, rfl, hrs, hss, hb4⟩
          have hM4 := Lib.hid (hM1.out.later hb4)
          have hbk4 := Lib.hid (hbk.out.below hb4)
          clear k0 k1 hb4 c23f
          go_upto_region 18 with fail
          obtain ⟨ws, hws⟩ : ∃ x, x = w4.alloc (.cells (storeCells s) 43) := ⟨_, rfl⟩
          obtain ⟨bs, hbs⟩ : ∃ x, x = w4.heap.size := ⟨_, rfl⟩
          rw [← hws, ← hbs]
          have hbw : Below w4.heap.size w4 ws := by rw [hws]; exact (Below.refl _ w4).alloc (Nat.le_refl _) _
          have hS : Hid (HasS ws bs s) := ⟨by rw [hws, hbs]; exact heap_new _ _ _ rfl, hrs.below hbw⟩
          have hMs := Lib.hid (hM4.out.later hbw)
          have hbss : bs < ws.heap.size := hS.out.lt
          replace hbw := Lib.hid hbw
          replace hws := Lib.hid hws
          replace hbs := Lib.hid hbs
          clear hrs
          obtain ⟨k0, k1⟩ := cells2 hMs.out.o
          go_wp2_with fail
          go_at_call 23
          (with_reducible refine (c23o.out _ hMs.out).mono ?_)
          rintro e w5 ⟨t, rfl, hrt, hst, hb5, hft⟩
          have hM5 := Lib.hid (hMs.out.later hb5)
          have hS5 := Lib.hid (hS.out.later hb5)
          have hB5 := Lib.hid (hbw.out.trans (hb5.mono hbw.out.size))
          have hbs5 : bs < w5.heap.size := hS5.out.lt
          clear k0 k1 hb5 c23o
          go_upto_region 19 with fail
          obtain ⟨wt, hwt⟩ : ∃ x, x = w5.alloc (.cells (storeCells t) 43) := ⟨_, rfl⟩
          obtain ⟨bt, hbt⟩ : ∃ x, x = w5.heap.size := ⟨_, rfl⟩
          rw [← hwt, ← hbt]
          have hbw2 : Below w5.heap.size w5 wt := by rw [hwt]; exact (Below.refl _ w5).alloc (Nat.le_refl _) _
          have hT : Hid (HasS wt bt t) := ⟨by rw [hwt, hbt]; exact heap_new _ _ _ rfl, hrt.below hbw2⟩
          have hMt := Lib.hid (hM5.out.later hbw2)
          have hSt := Lib.hid (hS5.out.later hbw2)
          have hBt := Lib.hid (hB5.out.trans (hbw2.mono hB5.out.size))
          have hbst : bs < bt := by omega
          have hbtt : bt < wt.heap.size := hT.out.lt
          replace hwt := Lib.hid hwt
          replace hbt := Lib.hid hbt
          replace hft := Lib.hid hft
          replace hss := Lib.hid hss
          replace hst := Lib.hid hst
          clear hrt hbw2
          obtain ⟨m0, m1, m2, m3, m4, m5⟩ := six_cells hSt.out.cells
          obtain ⟨k0, k1⟩ := cells2 hMt.out.sw.farm
          go_wp2_with fail
          go_at_call 38
          (with_reducible refine (c38f.out _ _ hMt.out hSt.out.rd hss.out).mono ?_)
          rintro e w6 ⟨u, rfl, hsu, hru, hb6, hfu⟩
          have hx := (hSt.out.later hb6).cells
          have hT6 := hT.out.later hb6
          have hB6 := hBt.out.trans (hb6.mono hBt.out.size)
          clear m0 m1 m2 m3 m4 m5 k0 k1 c38f
          have hfr : ∀ j, w6.frozen? ⟨bs, j, none⟩ = false := fun j => frozen_of_row w6 _ j _ _ hx
          have f0 := hfr 0
          have f1 := hfr 1
          have f2 := hfr 2
          have f3 := hfr 3
          have f4 := hfr 4
          have f5 := hfr 5
          clear hfr
          obtain ⟨m0, m1, m2, m3, m4, m5⟩ := six_cells hx
          obtain ⟨w7, hw7⟩ : ∃ x, x = putS w6 bs u := ⟨_, rfl⟩
          have hS7 : Hid (HasS w7 bs u) := by rw [hw7]; exact ⟨set6 _ _ _ _ _ _ hx, hru.over hfu (by omega) hx fun k hk => set6_other _ _ _ _ _ _ hk⟩
          have hT7 : Hid (HasS w7 bt t) := by rw [hw7]; exact ⟨(set6_other _ _ _ _ _ _ (by omega)).trans hT6.cells, hT6.rd.over hft.out hbss hx fun k hk => set6_other _ _ _ _ _ _ hk⟩
          have hB7 : Hid (Below w4.heap.size w4 w7) := by rw [hw7]; exact set6_below _ _ _ _ _ _ hB6 (by rw [hbs.out]; exact Nat.le_refl _)
          have hM7 := Lib.hid (hM4.out.later hB7.out)
          have hbk7 := Lib.hid (hbk4.out.below hB7.out)
          have hbt7 : bt < w7.heap.size := hT7.out.lt
          have hfu' : Hid (FreshS wt.heap.size u) := hfu
          replace hsu := Lib.hid hsu
          replace hx := Lib.hid hx
          clear hru hfu hT6 hB6 hb6 hS hS5 hSt hM5 hMs hMt hB5 hBt hbw
          go_upto_region 22 with fail
          unfold putS at hw7
          rw [← hw7]
          clear f0 f1 f2 f3 f4 f5 m0 m1 m2 m3 m4 m5 hx
          replace hw7 := Lib.hid hw7
          obtain ⟨m0, m1, m2, m3, m4, m5⟩ := six_cells hT7.out.cells
          obtain ⟨k0, k1⟩ := cells2 hM7.out.o
          go_wp2_with fail
          go_at_call 38
          (with_reducible refine (c38o.out _ _ hM7.out hbk7.out hT7.out.rd hst.out).mono ?_)
          rintro e w8 ⟨v, rfl, hsv, hrv, hb8, hfv⟩
          have hx := (hT7.out.later hb8).cells
          have hS8 := hS7.out.later hb8
          have hB8 := hB7.out.trans (hb8.mono hB7.out.size)
          clear m0 m1 m2 m3 m4 m5 k0 k1 c38o
          have hfr : ∀ j, w8.frozen? ⟨bt, j, none⟩ = false := fun j => frozen_of_row w8 _ j _ _ hx
          have f0 := hfr 0
          have f1 := hfr 1
          have f2 := hfr 2
          have f3 := hfr 3
          have f4 := hfr 4
          have f5 := hfr 5
          clear hfr
          obtain ⟨m0, m1, m2, m3, m4, m5⟩ := six_cells hx
          obtain ⟨w9, hw9⟩ : ∃ x, x = putS w8 bt v := ⟨_, rfl⟩
          have hT9 : Hid (HasS w9 bt v) := by rw [hw9]; exact ⟨set6 _ _ _ _ _ _ hx, hrv.over hfv hbt7 hx fun k hk => set6_other _ _ _ _ _ _ hk⟩
          have hS9 : Hid (HasS w9 bs u) := by rw [hw9]; exact ⟨(set6_other _ _ _ _ _ _ (by omega)).trans hS8.cells, hS8.rd.over hfu'.out hbtt hx fun k hk => set6_other _ _ _ _ _ _ hk⟩
          have hB9 : Hid (Below w4.heap.size w4 w9) := by rw [hw9]; exact set6_below _ _ _ _ _ _ hB8 (by rw [← hbs.out]; omega)
          have hM9 := Lib.hid (hM4.out.later hB9.out)
          replace hsv := Lib.hid hsv
          replace hx := Lib.hid hx
          clear hrv hfv hS8 hB8 hb8 hS7 hT7 hM7 hT hfu' hbk7 hbk4 hbk hB7
          go_upto_region 23 with fail
          unfold putS at hw9
          rw [← hw9]
          clear f0 f1 f2 f3 f4 f5 m0 m1 m2 m3 m4 m5 hx
          replace hw9 := Lib.hid hw9
          obtain ⟨m0, m1, m2, m3, m4, m5⟩ := six_cells hS9.out.cells
          obtain ⟨k0, k1⟩ := cells2 hM9.out.sw.farm
          go_wp2_with fail
          go_at_call 30
          (with_reducible refine (c30f.out _ _ hM9.out hS9.out.rd hsu.out).mono ?_)
          rintro e w10 ⟨la, lca, rfl, hla, hb10⟩
          have hM10 := Lib.hid (hM9.out.later hb10)
          have hT10 := Lib.hid (hT9.out.later hb10)
          clear m0 m1 m2 m3 m4 m5 k0 k1 c30f
          obtain ⟨m0, m1, m2, m3, m4, m5⟩ := six_cells hT10.out.cells
          obtain ⟨k0, k1⟩ := cells2 hM10.out.o
          replace hla := Lib.hid hla
          clear hb10
          go_wp2_with fail
          go_at_call 30
          (with_reducible refine (c30o.out _ _ hM10.out hT10.out.rd hsv.out).mono ?_)
          rintro e w11 ⟨lb, lcb, rfl, hlb, hb11⟩
          have hM11 := Lib.hid (hM10.out.later hb11)
          have hla11 := Lib.hid (FlatRow.below hla.out hb11)
          replace hlb := Lib.hid hlb
          clear m0 m1 m2 m3 m4 m5 k0 k1 c30o hb11 hla
          go_wp2_with fail
          go_loopw [21] (fun i wr => ∃ k : Nat, i = .int .i64 k ∧ k ≤ pl.length ∧ Hid (Below w11.heap.size w11 wr)) (fun i _ => pl.length - (intOf i).toNat)
          case atStart => exact ⟨0, rfl, Nat.zero_le _, Below.refl _ _⟩
          case round =>
            obtain ⟨k, rfl, hk, hb⟩ := hrel
            by_cases hkl : k < pl.length
            · obtain ⟨j, hj⟩ : ∃ j, j + k + 1 = pl.length := ⟨pl.length - 1 - k, by omega⟩
              have hwj : IntKind.i64.wrap ((pl.length : Int) - 1 - (k : Int)) = (j : Int) := by rw [IntWalk.i64_in _ (by omega)]; omega
              obtain ⟨aa, hA, y0, y1, y2, y3⟩ := RdCnts.at_ (FlatRow.below hla11.out hb.out) hkl
              obtain ⟨ab, hAb, z0, z1, z2, z3⟩ := RdCnts.at_ (j := j) (FlatRow.below hlb.out hb.out) (by omega)
              rw [hled.out j k hj] at z0 z1 z2 z3
              subst hA
              subst hAb
              generalize (cntAt R k).given = g0 at *
              generalize (cntAt R k).used = g1 at *
              generalize (cntAt R k).left = g2 at *
              generalize (cntAt R k).waste = g3 at *
              have hjl : j < pl.length := by omega
              replace hj := Lib.hid hj
              go_upto_region 32 with fail
              go_big_quiet (fail)
              obtain ⟨wc, hwc⟩ : ∃ wc, wc = wr.drewN nq := ⟨_, rfl⟩
              rw [← hwc]
              have hbc : Hid (Below w11.heap.size w11 wc) := by rw [hwc]; exact hb.out.trans ((below_drewN_ wr nq).mono hb.out.size)
              replace hwc := Lib.hid hwc
              clear y0 y1 y2 y3 z0 z1 z2 z3
              go_wp2_with fail
              exact ⟨⟨k + 1, by go_num, by omega, hbc⟩, by simp only [intOf]; omega⟩
            · have hM12 := Lib.hid (hM11.out.later hb.out)
              obtain ⟨k0, k1⟩ := cells2 hM12.out.sw.farm
              obtain ⟨n0, n1, n2⟩ := cells_three hM12.out.sw.need
              clear hla11 hlb hM11 hb
              go_wp2_with fail
              go_at_call 18
              (with_reducible refine (c18f.out _ hM12.out).mono ?_)
              rintro e w13 ⟨ra, rm, rc, rfl, hb13⟩
              have hM13 := Lib.hid (hM12.out.later hb13)
              clear k0 k1 n0 n1 n2 c18f hb13 hM12
              obtain ⟨k0, k1⟩ := cells2 hM13.out.o
              obtain ⟨n0, n1, n2⟩ := cells_three hM13.out.sw.need
              go_wp2_with fail
              go_at_call 18
              (with_reducible refine (c18o.out _ hM13.out).mono ?_)
              rintro e w14 ⟨rb, rn, rd, rfl, hb14⟩
              have hM14 := Lib.hid (hM13.out.later hb14)
              clear k0 k1 n0 n1 n2 c18o hb14 hM13
              go_wp2_with (go_at_call 17; refine (lives_any _).mono ?_; rintro e wL ⟨rfl, hbL⟩)
              all_goals go_ret
              all_goals exact ⟨rfl, (hM14.out.sw.later hbL).below⟩
end Go.Proofs.Ytpgkhlpepckfgaa
