/-
  Parts cut, as the specification has it: walked.
-/
import Derived.Test.YtpgkhlpepckfgaaCutW
import Derived.BigRegion
import Derived.Deep.AppendLies
import Derived.Deep.RegionLaw
import Derived.Deep.QuietTactic
import Derived.BigQuiet
namespace Go.Proofs.Ytpgkhlpepckfgaa
open Go.RowKit Go.Lib

/-- Two rows of the call's own, apart. -/
structure RC2 (w : World) (pre : List (Bool × Portion)) (v1 v2 : Value) (W : World) : Prop where
  below : Below w.heap.size w W
  r1 : PRow W w.heap.size v1 (firstL pre)
  r2 : PRow W w.heap.size v2 (restL pre)
  apart : ∀ j, v1.ownBlock = some j → v2.ownBlock ≠ some j
section
variable {w W w1 : World} {pre : List (Bool × Portion)} {v1 v2 v' : Value} {o : Obj}
theorem RC2.push1 (h : RC2 w pre v1 v2 W) (p : Portion) (hown : w1.ownsRow w.heap.size 91 2 v' ((firstL pre).length + 1) ((firstL pre).flatMap encPortion ++ [.int .i64 p.plot, .int .i64 p.loads])) (hgrow : (W.alloc o).grownBy w1 v1.ownBlock)
    (hnear : ∀ j, v'.ownBlock = some j → v1.ownBlock = some j ∨ (W.alloc o).heap.size ≤ j) : RC2 w (pre ++ [(true, p)]) v' v2 w1 := by
  rw [World.size_alloc] at hnear
  have b1 : ∀ j, v1.ownBlock = some j → w.heap.size ≤ j ∧ j < W.heap.size := fun j hj => h.r1.lt j hj
  have b2 : ∀ j, v2.ownBlock = some j → w.heap.size ≤ j ∧ j < W.heap.size := fun j hj => h.r2.lt j hj
  refine ⟨(h.below.alloc h.below.size _).grown hgrow (by rw [World.size_alloc]; have := h.below.size; omega) (fun j hj => (b1 j hj).1), ?_, ?_, fun j hj hj2 => ?_⟩
  · rw [firstL_snoc]; exact PRow.snoc hown
  · rw [restL_snoc, if_pos rfl, List.append_nil]
    exact h.r2.same fun j hj => (hgrow.block j (by rw [World.size_alloc]; have := b2 j hj; omega) (fun e => h.apart j e.symm hj)).trans (Below.heap_alloc _ _ _ (b2 j hj).2)
  · rcases hnear j hj with e | e
    · exact h.apart j e hj2
    · have := b2 j hj2; omega
theorem RC2.push2 (h : RC2 w pre v1 v2 W) (p : Portion) (hown : w1.ownsRow w.heap.size 91 2 v' ((restL pre).length + 1) ((restL pre).flatMap encPortion ++ [.int .i64 p.plot, .int .i64 p.loads])) (hgrow : (W.alloc o).grownBy w1 v2.ownBlock)
    (hnear : ∀ j, v'.ownBlock = some j → v2.ownBlock = some j ∨ (W.alloc o).heap.size ≤ j) : RC2 w (pre ++ [(false, p)]) v1 v' w1 := by
  rw [World.size_alloc] at hnear
  have b1 : ∀ j, v1.ownBlock = some j → w.heap.size ≤ j ∧ j < W.heap.size := fun j hj => h.r1.lt j hj
  have b2 : ∀ j, v2.ownBlock = some j → w.heap.size ≤ j ∧ j < W.heap.size := fun j hj => h.r2.lt j hj
  refine ⟨(h.below.alloc h.below.size _).grown hgrow (by rw [World.size_alloc]; have := h.below.size; omega) (fun j hj => (b2 j hj).1), ?_, ?_, fun j hj hj2 => ?_⟩
  · rw [firstL_snoc, if_neg (by simp), List.append_nil]
    exact h.r1.same fun j hj => (hgrow.block j (by rw [World.size_alloc]; have := b1 j hj; omega) (fun e => h.apart j hj e.symm)).trans (Below.heap_alloc _ _ _ (b1 j hj).2)
  · rw [restL_snoc]; exact PRow.snoc hown
  · rcases hnear j hj2 with e | e
    · exact h.apart j hj e
    · have := b1 j hj; omega
theorem RC2.later (h : RC2 w pre v1 v2 W) (hb : Below W.heap.size W w1) : RC2 w pre v1 v2 w1 :=
  ⟨h.below.trans (hb.mono h.below.size), h.r1.same fun k e => hb.block k (h.r1.lt k e).2, h.r2.same fun k e => hb.block k (h.r2.lt k e).2, h.apart⟩
end
theorem grown_undrew {W w1 : World} {row : Option Nat} (h : W.drew.grownBy w1 row) : W.grownBy w1 row := ⟨h.os, h.tape, h.output, h.size, h.block⟩

set_option maxHeartbeats 2000000 in
set_option maxRecDepth 100000 in
theorem rcut_any (A : Option Addr) (c : Nat) (l : List Portion) (N0 : Int) (w : World) (hA : RdParts w A l) (hm : Mild l) (hN : 0 ≤ N0 ∧ N0 ≤ 1000000000000) :
    Calls Try.prog 72 #[.slice A l.length c, .int .i64 N0] w (CutOut l N0 w) := by
  have hl1 := hA.1
  have hlm := hm.1
  go_enter Try.func72, Try.ntmps72
  go_wp2
  go_loopw [1, 6, 7, 8] (fun u a b i wr => ∃ (k : Nat) (v1 v2 : Value), u = .int .i64 (remL (l.take k) N0) ∧ a = v1 ∧ b = v2 ∧ i = .int .i64 k ∧ k ≤ l.length ∧ Hid (RC2 w (takenL (l.take k) N0) v1 v2 wr)) (fun _ _ _ i _ => l.length - (intOf i).toNat)
  case atStart => exact ⟨0, _, _, rfl, rfl, rfl, rfl, Nat.zero_le _, Below.refl _ _, PRow.nil _ _, PRow.nil _ _, fun j hj => by simp [Value.ownBlock] at hj⟩
  case round =>
    obtain ⟨k, v1, v2, rfl, rfl, rfl, rfl, hk, hR⟩ := hrel
    by_cases hlt : k < l.length
    · obtain ⟨ad, hA', p0, p1⟩ := FlatRow.at2 (FlatRow.below hA hR.out.below) hlt rfl
      subst hA'
      have hts := List.take_succ_eq_append_getElem hlt
      have hT := takenL_snoc l[k] (l.take k) N0
      have hR0 := remL_snoc l[k] (l.take k) N0
      rw [← hts] at hT hR0
      obtain ⟨q1, q2⟩ := hm.2 _ (List.getElem_mem hlt)
      obtain ⟨r1, r2⟩ := remL_bounds (l.take k) N0 (fun p hp => hm.2 p (List.mem_of_mem_take hp)) hN.1
      obtain ⟨hN1, hN2⟩ := hN
      have hpl := takenL_len (l.take k) N0
      rw [List.length_take] at hpl
      obtain ⟨pp, hpp⟩ : ∃ pp, pp = l[k].plot := ⟨_, rfl⟩
      obtain ⟨ll, hll⟩ : ∃ ll, ll = l[k].loads := ⟨_, rfl⟩
      obtain ⟨r, hr⟩ : ∃ r, r = remL (l.take k) N0 := ⟨_, rfl⟩
      obtain ⟨pre, hpre⟩ : ∃ pre, pre = takenL (l.take k) N0 := ⟨_, rfl⟩
      unfold stepP at hT
      rw [← hpp] at p0 hT
      rw [← hll] at p1 q1 q2 hT hR0
      rw [← hr] at r1 r2 hT hR0
      rw [← hpre] at hR hT hpl
      rw [← hr]
      have f1 : (firstL pre).length ≤ pre.length := by unfold firstL; rw [List.length_map]; exact List.length_filter_le _ _
      have f2 : (restL pre).length ≤ pre.length := by unfold restL; rw [List.length_map]; exact List.length_filter_le _ _
      have hpp' : Hid (l[k].plot = pp) := hpp.symm
      have hll' : Hid (l[k].loads = ll) := hll.symm
      clear hpp hll hr hpre hts
      obtain ⟨mm, hmm⟩ : ∃ mm, mm = min r ll := ⟨_, rfl⟩
      have m1 : 0 ≤ mm := by omega
      have m2 : mm ≤ r := by omega
      have m3 : mm ≤ ll := by omega
      have hmn : ∀ (w : World) (ts : Array TypeId) (t : TypeId), (Builtin.min_ ts t #[.int .i64 r, .int .i64 ll]).run Try.prog w = .ok (.int .i64 mm) w := fun w ts t => by rw [hmm]; exact run_min_ints w ts t _ _ _ _
      rw [← hmm] at hT hR0
      replace hT := Lib.hid hT
      replace hR0 := Lib.hid hR0
      replace hmm := Lib.hid hmm
      have hm1 : Hid ((firstL pre).length + 1 ≤ maxLen) := by unfold Hid maxLen; omega
      have hm2 : Hid (((firstL pre).length + 1) * 16 ≤ 140737488355328) := by unfold Hid; omega
      have hm3 : Hid ((restL pre).length + 1 ≤ maxLen) := by unfold Hid maxLen; omega
      have hm4 : Hid (((restL pre).length + 1) * 16 ≤ 140737488355328) := by unfold Hid; omega
      have hbs : Hid (w.heap.size ≤ wr.heap.size) := hR.out.below.size
      have hm5 : Hid (w.heap.size ≤ (wr.alloc (.cells #[.int .i64 pp, .int .i64 mm] 91)).heap.size) := by unfold Hid; rw [World.size_alloc]; have := hbs.out; omega
      obtain ⟨i0, hi0, hz0, hs0, hb0⟩ := info_parts info91
      by_cases h1 : 0 < mm
      · by_cases h2 : mm < ll
        · have hnew1 := Lib.hid (new_two wr ⟨pp, mm⟩)
          go_wp2_with (at_builtin; refine wp_app _ rfl (.tmp 28) (.tmp 36) 41 rfl w.heap.size 91 2 16 Try.underlying41 info91 rfl (by decide) _ _ _ rfl (PRow.same hR.out.r1 (fun k e => Below.heap_alloc _ _ _ (hR.out.r1.lt k e).2)) ⟨wr.heap.size, 0, none⟩ 1 1 [.int .i64 pp, .int .i64 mm] rfl rfl hnew1.out (by simp [Value.oneCell']) hm1.out hm2.out hm5.out ?_; intro v1' wA hown hgrow hnear; obtain ⟨gA, cA, rfl, _, _⟩ := row_succ hown; have hP1 := hR.out.push1 ⟨pp, mm⟩ hown hgrow hnear; have hbA := hgrow.size; obtain ⟨ad3, hA3, p03, p13⟩ := FlatRow.at2 (FlatRow.below hA hP1.below) hlt rfl; cases hA3; rw [hpp'.out] at p03; rw [hll'.out] at p13; replace hP1 := Lib.hid hP1; clear hown hgrow hnear)
          have hnews := Lib.hid (new_two wA ⟨pp, ll - mm⟩)
          have hbs2 : Hid (w.heap.size ≤ wA.heap.size) := hP1.out.below.size
          have hrr : Hid (restL pre = restL (pre ++ [(true, ⟨pp, mm⟩)])) := by unfold Hid; rw [restL_snoc]; simp
          have hw1 : IntKind.i64.wrap (ll - mm) = ll - mm := IntWalk.i64_in _ (by omega)
          go_region_law (refine step_append_lies _ rfl (.tmp 45) (.tmp 59) 41 rfl w.heap.size 91 i0 (.agg #[.int .i64 0, .int .i64 0]) 2 16 Try.underlying41 hi0 hz0 hs0 hb0 rfl (by decide) u7 _ _ (by simp [Act.eval]) (PRow.same hP1.out.r2 (fun k e => Below.heap_alloc _ _ _ (hP1.out.r2.lt k e).2)) ⟨wA.heap.size, 0, none⟩ 1 1 [.int .i64 pp, .int .i64 (ll - mm)] (by simp [Act.eval]) rfl hnews.out (by simp [Value.oneCell']) (by decide) (hrr.out ▸ hm3.out) (hrr.out ▸ hm4.out) (by simp; have := hbs2.out; omega) (wA.heap.size + 1) (by simp) ?_; intro g cap w1 hown1 hgrow1 hnear1 hlt1)
          all_goals
            have hP := (RC2.push2 hP1.out ⟨pp, ll - mm⟩ hown1 (grown_undrew hgrow1) (fun j hj => by
              have : g = j := by simpa [Value.ownBlock] using hj
              subst this
              rcases hnear1 with e | e
              · exact .inl e
              · exact .inr (by rw [World.size_alloc]; omega)))
            replace hP := Lib.hid hP
            clear hown1 hgrow1 hnear1
            go_wp2
            refine ⟨⟨k + 1, _, _, by rw [hR0.out], rfl, rfl, by go_num, by omega, by unfold Hid; rw [hT.out, if_pos h1, if_pos h2]; simpa using hP.out⟩, by simp only [intOf]; omega⟩
        · have hnew1 := Lib.hid (new_two wr ⟨pp, mm⟩)
          go_wp2_with (at_builtin; refine wp_app _ rfl (.tmp 28) (.tmp 36) 41 rfl w.heap.size 91 2 16 Try.underlying41 info91 rfl (by decide) _ _ _ rfl (PRow.same hR.out.r1 (fun k e => Below.heap_alloc _ _ _ (hR.out.r1.lt k e).2)) ⟨wr.heap.size, 0, none⟩ 1 1 [.int .i64 pp, .int .i64 mm] rfl rfl hnew1.out (by simp [Value.oneCell']) hm1.out hm2.out hm5.out ?_; intro v1' wA hown hgrow hnear; obtain ⟨gA, cA, rfl, _, _⟩ := row_succ hown; have hP1 := hR.out.push1 ⟨pp, mm⟩ hown hgrow hnear; have hbA := hgrow.size; obtain ⟨ad3, hA3, p03, p13⟩ := FlatRow.at2 (FlatRow.below hA hP1.below) hlt rfl; cases hA3; rw [hpp'.out] at p03; rw [hll'.out] at p13; replace hP1 := Lib.hid hP1; clear hown hgrow hnear)
          refine ⟨⟨k + 1, _, u7, by rw [hR0.out], rfl, rfl, by go_num, by omega, by unfold Hid; rw [hT.out, if_pos h1, if_neg (show ¬ mm < ll by omega)]; simpa using hP1.out⟩, by simp only [intOf]; omega⟩
      · by_cases h2 : mm < ll
        · have hnews := Lib.hid (new_two wr ⟨pp, ll - mm⟩)
          go_wp2
          have hw1 : IntKind.i64.wrap (ll - mm) = ll - mm := IntWalk.i64_in _ (by omega)
          go_region_law (refine step_append_lies _ rfl (.tmp 45) (.tmp 59) 41 rfl w.heap.size 91 i0 (.agg #[.int .i64 0, .int .i64 0]) 2 16 Try.underlying41 hi0 hz0 hs0 hb0 rfl (by decide) u7 (restL pre).length ((restL pre).flatMap encPortion) (by simp [Act.eval]) (PRow.same hR.out.r2 (fun k e => Below.heap_alloc _ _ _ (hR.out.r2.lt k e).2)) ⟨wr.heap.size, 0, none⟩ 1 1 [.int .i64 pp, .int .i64 (ll - mm)] (by simp [Act.eval]) rfl hnews.out (by simp [Value.oneCell']) (by decide) hm3.out hm4.out (by simp; have := hbs.out; omega) (wr.heap.size + 1) (by simp) ?_; intro g cap w1 hown1 hgrow1 hnear1 hlt1)
          all_goals
            have hP := (RC2.push2 hR.out ⟨pp, ll - mm⟩ hown1 (grown_undrew hgrow1) (fun j hj => by
              have : g = j := by simpa [Value.ownBlock] using hj
              subst this
              rcases hnear1 with e | e
              · exact .inl e
              · exact .inr (by rw [World.size_alloc]; omega)))
            replace hP := Lib.hid hP
            clear hown1 hgrow1 hnear1
            go_wp2
            refine ⟨⟨k + 1, u6, _, by rw [hR0.out], rfl, rfl, by go_num, by omega, by unfold Hid; rw [hT.out, if_neg (show ¬ 0 < mm by omega), if_pos h2]; simpa using hP.out⟩, by simp only [intOf]; omega⟩
        · go_wp2
          refine ⟨⟨k + 1, u6, u7, by rw [hR0.out], rfl, rfl, by go_num, by omega, by unfold Hid; rw [hT.out, if_neg (show ¬ 0 < mm by omega), if_neg (show ¬ mm < ll by omega)]; simpa using hR.out⟩, by simp only [intOf]; omega⟩
    · have hke : k = l.length := by omega
      subst hke
      rw [List.take_length] at hR ⊢
      obtain ⟨A1, k1, rfl, H1⟩ := hR.out.r1.reads (by have := takenL_len l N0; have : (firstL (takenL l N0)).length ≤ (takenL l N0).length := (by unfold firstL; rw [List.length_map]; exact List.length_filter_le _ _); omega)
      obtain ⟨A2, k2, rfl, H2⟩ := hR.out.r2.reads (by have := takenL_len l N0; have : (restL (takenL l N0)).length ≤ (takenL l N0).length := (by unfold restL; rw [List.length_map]; exact List.length_filter_le _ _); omega)
      go_wp2
      go_ret2
      exact ⟨A1, k1, A2, k2, rfl, H1, H2, hR.out.below⟩
end Go.Proofs.Ytpgkhlpepckfgaa
