/-
  Parts cut, as the specification has it: walked. Of which loads a bundle is made: plain. The ledger: plain.
-/
import Derived.Test.YtpgkhlpepckfgaaXa13
import Derived.Test.YtpgkhlpepckfgaaXa17
import Derived.Test.YtpgkhlpepckfgaaXa19
import Derived.BigQuiet
import Derived.BigRegion
import Derived.Deep.AppendLies
import Derived.Deep.QuietTactic
import Derived.Deep.RegionLaw
set_option linter.all false
set_option linter.unusedVariables false
set_option linter.unusedSimpArgs false
section
namespace Go.Proofs.Ytpgkhlpepckfgaa
open Go.RowKit Go.Lib

/-- Two rows of the call's own, apart. -/
structure RC2 (w : World) (pre : List (Bool × Portion)) (v1 v2 : Value) (W : World) : Prop where
  below : Below w.heap.size w W
  r1 : PRow W w.heap.size v1 (firstL pre)
  r2 : PRow W w.heap.size v2 (restL pre)
  apart : ∀ j, v1.ownBlock = some j → v2.ownBlock ≠ some j
section
variable {w W w1 : World} {pre : List (Bool × Portion)} {v1 v2 v' : Value} {o : Obj}
theorem RC2.push1 (h : RC2 w pre v1 v2 W) (p : Portion) (hown : w1.ownsRow w.heap.size 91 2 v' ((firstL pre).length + 1) ((firstL pre).flatMap encPortion ++ [.int .i64 p.plot, .int .i64 p.loads])) (hgrow : (W.alloc o).grownBy w1 v1.ownBlock)
    (hnear : ∀ j, v'.ownBlock = some j → v1.ownBlock = some j ∨ (W.alloc o).heap.size ≤ j) : RC2 w (pre ++ [(true, p)]) v' v2 w1 := by
  rw [World.size_alloc] at hnear
  have b1 : ∀ j, v1.ownBlock = some j → w.heap.size ≤ j ∧ j < W.heap.size := fun j hj => h.r1.lt j hj
  have b2 : ∀ j, v2.ownBlock = some j → w.heap.size ≤ j ∧ j < W.heap.size := fun j hj => h.r2.lt j hj
  refine ⟨(h.below.alloc h.below.size _).grown hgrow (by rw [World.size_alloc]; have := h.below.size; omega) (fun j hj => (b1 j hj).1), ?_, ?_, fun j hj hj2 => ?_⟩
  · rw [firstL_snoc]; exact PRow.snoc hown
  · rw [restL_snoc, if_pos rfl, List.append_nil]
    exact h.r2.same fun j hj => (hgrow.block j (by rw [World.size_alloc]; have := b2 j hj; omega) (fun e => h.apart j e.symm hj)).trans (Below.heap_alloc _ _ _ (b2 j hj).2)
  · rcases hnear j hj with e | e
    · exact h.apart j e hj2
    · have := b2 j hj2; omega
theorem RC2.push2 (h : RC2 w pre v1 v2 W) (p : Portion) (hown : w1.ownsRow w.heap.size 91 2 v' ((restL pre).length + 1) ((restL pre).flatMap encPortion ++ [.int .i64 p.plot, .int .i64 p.loads])) (hgrow : (W.alloc o).grownBy w1 v2.ownBlock)
    (hnear : ∀ j, v'.ownBlock = some j → v2.ownBlock = some j ∨ (W.alloc o).heap.size ≤ j) : RC2 w (pre ++ [(false, p)]) v1 v' w1 := by
  rw [World.size_alloc] at hnear
  have b1 : ∀ j, v1.ownBlock = some j → w.heap.size ≤ j ∧ j < W.heap.size := fun j hj => h.r1.lt j hj
  have b2 : ∀ j, v2.ownBlock = some j → w.heap.size ≤ j ∧ j < W.heap.size := fun j hj => h.r2.lt j hj
  refine ⟨(h.below.alloc h.below.size _).grown hgrow (by rw [World.size_alloc]; have := h.below.size; omega) (fun j hj => (b2 j hj).1), ?_, ?_, fun j hj hj2 => ?_⟩
  · rw [firstL_snoc, if_neg (by simp), List.append_nil]
    exact h.r1.same fun j hj => (hgrow.block j (by rw [World.size_alloc]; have := b1 j hj; omega) (fun e => h.apart j hj e.symm)).trans (Below.heap_alloc _ _ _ (b1 j hj).2)
  · rw [restL_snoc]; exact PRow.snoc hown
  · rcases hnear j hj2 with e | e
    · exact h.apart j hj e
    · have := b1 j hj; omega
theorem RC2.later (h : RC2 w pre v1 v2 W) (hb : Below W.heap.size W w1) : RC2 w pre v1 v2 w1 :=
  ⟨h.below.trans (hb.mono h.below.size), h.r1.same fun k e => hb.block k (h.r1.lt k e).2, h.r2.same fun k e => hb.block k (h.r2.lt k e).2, h.apart⟩
end
theorem grown_undrew {W w1 : World} {row : Option Nat} (h : W.drew.grownBy w1 row) : W.grownBy w1 row := ⟨h.os, h.tape, h.output, h.size, h.block⟩

set_option maxHeartbeats 2000000 in
set_option maxRecDepth 100000 in
theorem rcut_fresh (A : Option Addr) (c : Nat) (l : List Portion) (N0 : Int) (w : World) (hA : RdParts w A l) (hm : Mild l) (hN : 0 ≤ N0 ∧ N0 ≤ 1000000000000) :
    Calls Try.prog 72 #[.slice A l.length c, .int .i64 N0] w (CutOutF l N0 w) := by
  have hl1 := hA.1
  have hlm := hm.1
  go_enter Try.func72, Try.ntmps72
  go_wp2
  go_loopw [1, 6, 7, 8] (fun u a b i wr => ∃ (k : Nat) (v1 v2 : Value), u = .int .i64 (remL (l.take k) N0) ∧ a = v1 ∧ b = v2 ∧ i = .int .i64 k ∧ k ≤ l.length ∧ Hid (RC2 w (takenL (l.take k) N0) v1 v2 wr)) (fun _ _ _ i _ => l.length - (intOf i).toNat)
  case atStart => exact ⟨0, _, _, rfl, rfl, rfl, rfl, Nat.zero_le _, Below.refl _ _, PRow.nil _ _, PRow.nil _ _, fun j hj => by simp [Value.ownBlock] at hj⟩
  case round =>
    obtain ⟨k, v1, v2, rfl, rfl, rfl, rfl, hk, hR⟩ := hrel
    by_cases hlt : k < l.length
    · obtain ⟨ad, hA', p0, p1⟩ := FlatRow.at2 (FlatRow.below hA hR.out.below) hlt rfl
      subst hA'
      have hts := List.take_succ_eq_append_getElem hlt
      have hT := takenL_snoc l[k] (l.take k) N0
      have hR0 := remL_snoc l[k] (l.take k) N0
      rw [← hts] at hT hR0
      obtain ⟨q1, q2⟩ := hm.2 _ (List.getElem_mem hlt)
      obtain ⟨r1, r2⟩ := remL_bounds (l.take k) N0 (fun p hp => hm.2 p (List.mem_of_mem_take hp)) hN.1
      obtain ⟨hN1, hN2⟩ := hN
      have hpl := takenL_len (l.take k) N0
      rw [List.length_take] at hpl
      obtain ⟨pp, hpp⟩ : ∃ pp, pp = l[k].plot := ⟨_, rfl⟩
      obtain ⟨ll, hll⟩ : ∃ ll, ll = l[k].loads := ⟨_, rfl⟩
      obtain ⟨r, hr⟩ : ∃ r, r = remL (l.take k) N0 := ⟨_, rfl⟩
      obtain ⟨pre, hpre⟩ : ∃ pre, pre = takenL (l.take k) N0 := ⟨_, rfl⟩
      unfold stepP at hT
      rw [← hpp] at p0 hT
      rw [← hll] at p1 q1 q2 hT hR0
      rw [← hr] at r1 r2 hT hR0
      rw [← hpre] at hR hT hpl
      rw [← hr]
      have f1 : (firstL pre).length ≤ pre.length := by unfold firstL; rw [List.length_map]; exact List.length_filter_le _ _
      have f2 : (restL pre).length ≤ pre.length := by unfold restL; rw [List.length_map]; exact List.length_filter_le _ _
      have hpp' : Hid (l[k].plot = pp) := hpp.symm
      have hll' : Hid (l[k].loads = ll) := hll.symm
      clear hpp hll hr hpre hts
      obtain ⟨mm, hmm⟩ : ∃ mm, mm = min r ll := ⟨_, rfl⟩
      have m1 : 0 ≤ mm := by omega
      have m2 : mm ≤ r := by omega
      have m3 : mm ≤ ll := by omega
      have hmn : ∀ (w : World) (ts : Array TypeId) (t : TypeId), (Builtin.min_ ts t #[.int .i64 r, .int .i64 ll]).run Try.prog w = .ok (.int .i64 mm) w := fun w ts t => by rw [hmm]; exact run_min_ints w ts t _ _ _ _
      rw [← hmm] at hT hR0
      replace hT := Lib.hid hT
      replace hR0 := Lib.hid hR0
      replace hmm := Lib.hid hmm
      have hm1 : Hid ((firstL pre).length + 1 ≤ maxLen) := by unfold Hid maxLen; omega
      have hm2 : Hid (((firstL pre).length + 1) * 16 ≤ 140737488355328) := by unfold Hid; omega
      have hm3 : Hid ((restL pre).length + 1 ≤ maxLen) := by unfold Hid maxLen; omega
      have hm4 : Hid (((restL pre).length + 1) * 16 ≤ 140737488355328) := by unfold Hid; omega
      have hbs : Hid (w.heap.size ≤ wr.heap.size) := hR.out.below.size
      have hm5 : Hid (w.heap.size ≤ (wr.alloc (.cells #[.int .i64 pp, .int .i64 mm] 91)).heap.size) := by unfold Hid; rw [World.size_alloc]; have := hbs.out; omega
      obtain ⟨i0, hi0, hz0, hs0, hb0⟩ := info_parts info91
      by_cases h1 : 0 < mm
      · by_cases h2 : mm < ll
        · have hnew1 := Lib.hid (new_two wr ⟨pp, mm⟩)
          go_wp2_with (at_builtin; refine wp_app _ rfl (.tmp 28) (.tmp 36) 41 rfl w.heap.size 91 2 16 Try.underlying41 info91 rfl (by decide) _ _ _ rfl (PRow.same hR.out.r1 (fun k e => Below.heap_alloc _ _ _ (hR.out.r1.lt k e).2)) ⟨wr.heap.size, 0, none⟩ 1 1 [.int .i64 pp, .int .i64 mm] rfl rfl hnew1.out (by simp [Value.oneCell']) hm1.out hm2.out hm5.out ?_; intro v1' wA hown hgrow hnear; obtain ⟨gA, cA, rfl, _, _⟩ := row_succ hown; have hP1 := hR.out.push1 ⟨pp, mm⟩ hown hgrow hnear; have hbA := hgrow.size; obtain ⟨ad3, hA3, p03, p13⟩ := FlatRow.at2 (FlatRow.below hA hP1.below) hlt rfl; cases hA3; rw [hpp'.out] at p03; rw [hll'.out] at p13; replace hP1 := Lib.hid hP1; clear hown hgrow hnear)
          have hnews := Lib.hid (new_two wA ⟨pp, ll - mm⟩)
          have hbs2 : Hid (w.heap.size ≤ wA.heap.size) := hP1.out.below.size
          have hrr : Hid (restL pre = restL (pre ++ [(true, ⟨pp, mm⟩)])) := by unfold Hid; rw [restL_snoc]; simp
          have hw1 : IntKind.i64.wrap (ll - mm) = ll - mm := IntWalk.i64_in _ (by omega)
          go_region_law (refine step_append_lies _ rfl (.tmp 45) (.tmp 59) 41 rfl w.heap.size 91 i0 (.agg #[.int .i64 0, .int .i64 0]) 2 16 Try.underlying41 hi0 hz0 hs0 hb0 rfl (by decide) u7 _ _ (by simp [Act.eval]) (PRow.same hP1.out.r2 (fun k e => Below.heap_alloc _ _ _ (hP1.out.r2.lt k e).2)) ⟨wA.heap.size, 0, none⟩ 1 1 [.int .i64 pp, .int .i64 (ll - mm)] (by simp [Act.eval]) rfl hnews.out (by simp [Value.oneCell']) (by decide) (hrr.out ▸ hm3.out) (hrr.out ▸ hm4.out) (by simp; have := hbs2.out; omega) (wA.heap.size + 1) (by simp) ?_; intro g cap w1 hown1 hgrow1 hnear1 hlt1)
          all_goals
            have hP := (RC2.push2 hP1.out ⟨pp, ll - mm⟩ hown1 (grown_undrew hgrow1) (fun j hj => by
              have : g = j := by simpa [Value.ownBlock] using hj
              subst this
              rcases hnear1 with e | e
              · exact .inl e
              · exact .inr (by rw [World.size_alloc]; omega)))
            replace hP := Lib.hid hP
            clear hown1 hgrow1 hnear1
            go_wp2
            refine ⟨⟨k + 1, _, _, by rw [hR0.out], rfl, rfl, by go_num, by omega, by unfold Hid; rw [hT.out, if_pos h1, if_pos h2]; simpa using hP.out⟩, by simp only [intOf]; omega⟩
        · have hnew1 := Lib.hid (new_two wr ⟨pp, mm⟩)
          go_wp2_with (at_builtin; refine wp_app _ rfl (.tmp 28) (.tmp 36) 41 rfl w.heap.size 91 2 16 Try.underlying41 info91 rfl (by decide) _ _ _ rfl (PRow.same hR.out.r1 (fun k e => Below.heap_alloc _ _ _ (hR.out.r1.lt k e).2)) ⟨wr.heap.size, 0, none⟩ 1 1 [.int .i64 pp, .int .i64 mm] rfl rfl hnew1.out (by simp [Value.oneCell']) hm1.out hm2.out hm5.out ?_; intro v1' wA hown hgrow hnear; obtain ⟨gA, cA, rfl, _, _⟩ := row_succ hown; have hP1 := hR.out.push1 ⟨pp, mm⟩ hown hgrow hnear; have hbA := hgrow.size; obtain ⟨ad3, hA3, p03, p13⟩ := FlatRow.at2 (FlatRow.below hA hP1.below) hlt rfl; cases hA3; rw [hpp'.out] at p03; rw [hll'.out] at p13; replace hP1 := Lib.hid hP1; clear hown hgrow hnear)
          refine ⟨⟨k + 1, _, u7, by rw [hR0.out], rfl, rfl, by go_num, by omega, by unfold Hid; rw [hT.out, if_pos h1, if_neg (show ¬ mm < ll by omega)]; simpa using hP1.out⟩, by simp only [intOf]; omega⟩
      · by_cases h2 : mm < ll
        · have hnews := Lib.hid (new_two wr ⟨pp, ll - mm⟩)
          go_wp2
          have hw1 : IntKind.i64.wrap (ll - mm) = ll - mm := IntWalk.i64_in _ (by omega)
          go_region_law (refine step_append_lies _ rfl (.tmp 45) (.tmp 59) 41 rfl w.heap.size 91 i0 (.agg #[.int .i64 0, .int .i64 0]) 2 16 Try.underlying41 hi0 hz0 hs0 hb0 rfl (by decide) u7 (restL pre).length ((restL pre).flatMap encPortion) (by simp [Act.eval]) (PRow.same hR.out.r2 (fun k e => Below.heap_alloc _ _ _ (hR.out.r2.lt k e).2)) ⟨wr.heap.size, 0, none⟩ 1 1 [.int .i64 pp, .int .i64 (ll - mm)] (by simp [Act.eval]) rfl hnews.out (by simp [Value.oneCell']) (by decide) hm3.out hm4.out (by simp; have := hbs.out; omega) (wr.heap.size + 1) (by simp) ?_; intro g cap w1 hown1 hgrow1 hnear1 hlt1)
          all_goals
            have hP := (RC2.push2 hR.out ⟨pp, ll - mm⟩ hown1 (grown_undrew hgrow1) (fun j hj => by
              have : g = j := by simpa [Value.ownBlock] using hj
              subst this
              rcases hnear1 with e | e
              · exact .inl e
              · exact .inr (by rw [World.size_alloc]; omega)))
            replace hP := Lib.hid hP
            clear hown1 hgrow1 hnear1
            go_wp2
            refine ⟨⟨k + 1, u6, _, by rw [hR0.out], rfl, rfl, by go_num, by omega, by unfold Hid; rw [hT.out, if_neg (show ¬ 0 < mm by omega), if_pos h2]; simpa using hP.out⟩, by simp only [intOf]; omega⟩
        · go_wp2
          refine ⟨⟨k + 1, u6, u7, by rw [hR0.out], rfl, rfl, by go_num, by omega, by unfold Hid; rw [hT.out, if_neg (show ¬ 0 < mm by omega), if_neg (show ¬ mm < ll by omega)]; simpa using hR.out⟩, by simp only [intOf]; omega⟩
    · have hke : k = l.length := by omega
      subst hke
      rw [List.take_length] at hR ⊢
      obtain ⟨A1, k1, rfl, H1⟩ := hR.out.r1.reads (by have := takenL_len l N0; have : (firstL (takenL l N0)).length ≤ (takenL l N0).length := (by unfold firstL; rw [List.length_map]; exact List.length_filter_le _ _); omega)
      obtain ⟨A2, k2, rfl, H2⟩ := hR.out.r2.reads (by have := takenL_len l N0; have : (restL (takenL l N0)).length ≤ (takenL l N0).length := (by unfold restL; rw [List.length_map]; exact List.length_filter_le _ _); omega)
      go_wp2
      go_ret2
      exact ⟨A1, k1, A2, k2, rfl, H1, H2, hR.out.below, fun k e => (hR.out.r1.lt k (by cases A1 <;> simpa [Value.ownBlock] using e)).1, fun k e => (hR.out.r2.lt k (by cases A2 <;> simpa [Value.ownBlock] using e)).1⟩
theorem rcut_any (A : Option Addr) (c : Nat) (l : List Portion) (N0 : Int) (w : World) (hA : RdParts w A l) (hm : Mild l) (hN : 0 ≤ N0 ∧ N0 ≤ 1000000000000) :
    Calls Try.prog 72 #[.slice A l.length c, .int .i64 N0] w (CutOut l N0 w) := (rcut_fresh A c l N0 w hA hm hN).mono fun _ _ h => h.plain
end Go.Proofs.Ytpgkhlpepckfgaa
end
section
namespace Go.Proofs.Ytpgkhlpepckfgaa
open Go.RowKit Go.Lib

theorem restL_append (a b : List (Bool × Portion)) : restL (a ++ b) = restL a ++ restL b := by simp [restL]
theorem restL_step (p : Portion) (r : Int) : restL (stepP p r) = if min r p.loads < p.loads then [⟨p.plot, p.loads - min r p.loads⟩] else [] := by
  unfold stepP restL
  split <;> split <;> simp
theorem cutR_mild : ∀ (l : List Portion) (r : Int), 0 ≤ r → (∀ p ∈ l, 0 ≤ p.loads ∧ p.loads ≤ 100000) → (cutR l r).length ≤ l.length ∧ ∀ p ∈ cutR l r, 0 ≤ p.loads ∧ p.loads ≤ 100000
  | [], r, _, _ => by simp [cutR, takenL, restL]
  | p :: l, r, h0, h => by
    have hp := h p (by simp)
    obtain ⟨i1, i2⟩ := cutR_mild l (r - min r p.loads) (by omega) (fun q hq => h q (by simp [hq]))
    unfold cutR at i1 i2 ⊢
    simp only [takenL]
    rw [restL_append, restL_step]
    split
    · refine ⟨by simp; omega, fun q hq => ?_⟩
      rcases List.mem_append.1 hq with h1 | h1
      · simp only [List.mem_singleton] at h1
        subst h1
        dsimp only
        omega
      · exact i2 q h1
    · refine ⟨by simp; omega, fun q hq => i2 q (by simpa using hq)⟩
theorem Mild.cutR {l : List Portion} (h : Mild l) {r : Int} (h0 : 0 ≤ r) : Mild (cutR l r) := by
  obtain ⟨a, b⟩ := cutR_mild l r h0 h.2
  exact ⟨Nat.le_trans a h.1, b⟩

/-- The parts of a bundle of a heap, and the error. -/
def bundleP (pl : List Plot) (dry : Int) (s : Store) (nm : ByteArray) (k : Int) : List Portion × Int :=
  if checkS pl dry s ≠ 0 then ([], checkS pl dry s)
  else if nameIdx nm s.heaps < 0 then ([], 7)
  else if (s.heaps.getD (nameIdx nm s.heaps).toNat default).stage ≠ 3 then ([], 8)
  else if inB k 0 (sumL (s.heaps.getD (nameIdx nm s.heaps).toNat default).parts / (s.heaps.getD (nameIdx nm s.heaps).toNat default).per - 1) = false then ([], 1)
  else (cutF (cutR (s.heaps.getD (nameIdx nm s.heaps).toNat default).parts (k * (s.heaps.getD (nameIdx nm s.heaps).toNat default).per)) (s.heaps.getD (nameIdx nm s.heaps).toNat default).per, 0)
section
variable {pl : List Plot} {dry : Int} {s : Store} {nm : ByteArray} {k : Int} {j : Nat}
theorem bundleP_bad (h : checkS pl dry s ≠ 0) : bundleP pl dry s nm k = ([], checkS pl dry s) := by unfold bundleP; rw [if_pos h]
theorem bundleP_none (h : checkS pl dry s = 0) (h2 : nameIdx nm s.heaps < 0) : bundleP pl dry s nm k = ([], 7) := by unfold bundleP; rw [if_neg (by simp [h]), if_pos h2]
theorem bundleP_state (h : checkS pl dry s = 0) (h2 : nameIdx nm s.heaps = (j : Int)) (hj : j < s.heaps.length) (h3 : s.heaps[j].stage ≠ 3) : bundleP pl dry s nm k = ([], 8) := by
  unfold bundleP; rw [if_neg (by simp [h]), if_neg (by omega), h2, Int.toNat_natCast, getD_lt _ hj, if_pos h3]
theorem bundleP_arg (h : checkS pl dry s = 0) (h2 : nameIdx nm s.heaps = (j : Int)) (hj : j < s.heaps.length) (h3 : s.heaps[j].stage = 3) (h4 : inB k 0 (sumL s.heaps[j].parts / s.heaps[j].per - 1) = false) : bundleP pl dry s nm k = ([], 1) := by
  unfold bundleP; rw [if_neg (by simp [h]), if_neg (by omega), h2, Int.toNat_natCast, getD_lt _ hj, if_neg (by simp [h3]), if_pos h4]
theorem bundleP_ok (h : checkS pl dry s = 0) (h2 : nameIdx nm s.heaps = (j : Int)) (hj : j < s.heaps.length) (h3 : s.heaps[j].stage = 3) (h4 : inB k 0 (sumL s.heaps[j].parts / s.heaps[j].per - 1) = true) : bundleP pl dry s nm k = (cutF (cutR s.heaps[j].parts (k * s.heaps[j].per)) s.heaps[j].per, 0) := by
  unfold bundleP; rw [if_neg (by simp [h]), if_neg (by omega), h2, Int.toNat_natCast, getD_lt _ hj, if_neg (by simp [h3]), if_neg (by simp [h4])]
theorem checkS_heap (h : checkS pl dry s = 0) (hj : j < s.heaps.length) : heapB pl s.heaps[j] = true := by
  have hs : storeB pl s = true := by
    unfold checkS at h
    split at h
    · exact absurd h (by assumption)
    · split at h
      · assumption
      · cases h
  rw [storeB_eq, Bool.and_eq_true, Bool.and_eq_true, Bool.and_eq_true] at hs
  have := allB_get hs.1.1.2 hj
  rw [heapAt_eq hj, Bool.and_eq_true] at this
  exact this.2
theorem bound_per {H : Heap} (h : heapB pl H = true) (h3 : H.stage = 3) : 1 ≤ H.per ∧ H.per ≤ 100 := by
  rw [heapB_eq, Bool.and_eq_true] at h
  have := h.2
  unfold heapTail at this
  rw [if_pos h3, Bool.and_eq_true] at this
  have := this.1
  simp only [inB, Bool.and_eq_true, decide_eq_true_eq] at this
  exact this
end
def BundOut (r : List Portion × Int) (w : World) (e : Ending) (w' : World) : Prop := ∃ A c, e = .returned (.tuple #[.slice A r.1.length c, .int .i64 r.2]) ∧ RdParts w' A r.1 ∧ Below w.heap.size w w'
theorem parts_nil (w : World) : RdParts w none [] := ⟨by simp, by simp⟩
end Go.Proofs.Ytpgkhlpepckfgaa
end
section
namespace Go.Proofs.Ytpgkhlpepckfgaa
open Go.RowKit Go.Lib

structure Cnt where
  given : Int
  used : Int
  left : Int
  waste : Int
deriving Inhabited
def encCnt (x : Cnt) : List Value := [.int .i64 x.given, .int .i64 x.used, .int .i64 x.left, .int .i64 x.waste]
def cval (x : Cnt) : Value := .agg #[.int .i64 x.given, .int .i64 x.used, .int .i64 x.left, .int .i64 x.waste]
abbrev RdCnts (w : World) (A : Option Addr) (l : List Cnt) : Prop := FlatRow encCnt 4 w A l
def cntAt (s : Store) (i : Nat) : Cnt := ⟨s.given.getD i 0, ofL s.used i, leftL s.heaps i, ofL s.waste i⟩
def cntsL (s : Store) (n : Nat) : List Cnt := (List.range n).map (cntAt s)
theorem cntsL_len (s : Store) (n : Nat) : (cntsL s n).length = n := by simp [cntsL]
theorem cntsL_succ (s : Store) (n : Nat) : cntsL s (n + 1) = cntsL s n ++ [cntAt s n] := by simp [cntsL, List.range_succ]
/-- The ledger and the error. -/
def ledP (pl : List Plot) (dry : Int) (s : Store) : List Cnt × Int := if checkS pl dry s ≠ 0 then ([], checkS pl dry s) else (cntsL s pl.length, 0)
theorem ledP_bad {pl : List Plot} {dry : Int} {s : Store} (h : checkS pl dry s ≠ 0) : ledP pl dry s = ([], checkS pl dry s) := by unfold ledP; rw [if_pos h]
theorem ledP_ok {pl : List Plot} {dry : Int} {s : Store} (h : checkS pl dry s = 0) : ledP pl dry s = (cntsL s pl.length, 0) := by unfold ledP; rw [if_neg (by simp [h])]
theorem info55 : (Try.prog.info? 55).map (fun i => (i.zero, i.size, i.bytes)) = some (some (.agg #[.int .i64 0, .int .i64 0, .int .i64 0, .int .i64 0]), 4, 32) := by kernel_rfl
def CRow (w : World) (base : Nat) (v : Value) (l : List Cnt) : Prop := w.ownsRow base 55 4 v l.length (l.flatMap encCnt)
theorem CRow.nil (w : World) (base : Nat) : CRow w base (.slice none 0 0) [] := World.ownsRow_nil _ _ _ _
theorem CRow.same {w w1 : World} {base : Nat} {v : Value} {l : List Cnt} (h : CRow w base v l) (hs : ∀ k, v.ownBlock = some k → w1.heap[k]? = w.heap[k]?) : CRow w1 base v l := ownsRow_same h hs
theorem CRow.reads {w : World} {base : Nat} {v : Value} {l : List Cnt} (h : CRow w base v l) (hl : l.length ≤ 140737488351232) : ∃ A c, v = .slice A l.length c ∧ RdCnts w A l := by
  rcases h.2 with ⟨rfl, h0⟩ | ⟨g, cap, cur, rfl, _⟩
  · have : l = [] := List.eq_nil_of_length_eq_zero h0
    subst this
    exact ⟨none, 0, rfl, by simp, by simp⟩
  · refine ⟨_, cap, rfl, hl, fun i x hx => ⟨_, rfl, fun j u hu => ?_⟩⟩
    exact h.cells (g := g) rfl _ _ (flat_get (sz := 4) (fun _ => rfl) l i x j u hx hu)
theorem CRow.snoc {w : World} {base : Nat} {v : Value} {l : List Cnt} {p : Cnt} (h : w.ownsRow base 55 4 v (l.length + 1) (l.flatMap encCnt ++ encCnt p)) : CRow w base v (l ++ [p]) := by
  unfold CRow
  rw [List.length_append, List.flatMap_append]
  simpa using h
/-- What the ledger's loop has in memory: a row of its own. -/
structure LedI (w : World) (A : Option Addr) (c : Nat) (pl : List Plot) (dry : Int) (s : Store) (k : Nat) (v : Value) (W : World) : Prop extends FS w A c pl dry s W where
  row : CRow W (w.heap.size + 2) v (cntsL s k)
section
variable {w W w1 : World} {A : Option Addr} {c : Nat} {pl : List Plot} {dry : Int} {s : Store} {k : Nat} {v v' : Value} {o : Obj}
theorem LedI.later (h : LedI w A c pl dry s k v W) (hb : Below W.heap.size W w1) : LedI w A c pl dry s k v w1 :=
  ⟨h.toFS.later hb, h.row.same fun j e => hb.block j (h.row.lt j e).2⟩
theorem LedI.push (h : LedI w A c pl dry s k v W) (hown : w1.ownsRow (w.heap.size + 2) 55 4 v' ((cntsL s k).length + 1) ((cntsL s k).flatMap encCnt ++ encCnt (cntAt s k))) (hgrow : (W.alloc o).grownBy w1 v.ownBlock) : LedI w A c pl dry s (k + 1) v' w1 := by
  have b1 : ∀ j, v.ownBlock = some j → w.heap.size + 2 ≤ j ∧ j < W.heap.size := fun j hj => h.row.lt j hj
  have hbl := h.toFS.size
  refine ⟨⟨(h.below.alloc h.below.size _).grown hgrow (by rw [World.size_alloc]; have := h.below.size; omega) (fun j hj => by have := (b1 j hj).1; omega), ?_, ?_, ?_⟩, ?_⟩
  · exact ((hgrow.block _ (by rw [World.size_alloc]; omega) (fun e => by have := (b1 _ e.symm).1; omega)).trans (Below.heap_alloc _ _ _ (by omega))).trans h.farm
  · exact ((hgrow.block _ (by rw [World.size_alloc]; omega) (fun e => by have := (b1 _ e.symm).1; omega)).trans (Below.heap_alloc _ _ _ (by omega))).trans h.store
  · have := hgrow.size; rw [World.size_alloc] at this; omega
  · rw [cntsL_succ]; exact CRow.snoc hown
end
theorem LedI.base {w W : World} {A : Option Addr} {c : Nat} {pl : List Plot} {dry : Int} {s : Store} {k : Nat} {v : Value} {o : Obj} (h : LedI w A c pl dry s k v W) : w.heap.size + 2 ≤ (W.alloc o).heap.size := by
  rw [World.size_alloc]; have := h.size; omega
theorem LedI.push' {w W w1 : World} {A : Option Addr} {c : Nat} {pl : List Plot} {dry : Int} {s : Store} {k : Nat} {v v' : Value} {o : Obj} {p : Cnt} (h : LedI w A c pl dry s k v W) (hp : cntAt s k = p) (hown : w1.ownsRow (w.heap.size + 2) 55 4 v' ((cntsL s k).length + 1) ((cntsL s k).flatMap encCnt ++ encCnt p)) (hgrow : (W.alloc o).grownBy w1 v.ownBlock) : LedI w A c pl dry s (k + 1) v' w1 := by
  subst hp; exact h.push hown hgrow
theorem LedI.arow {w W : World} {A : Option Addr} {c : Nat} {pl : List Plot} {dry : Int} {s : Store} {k : Nat} {v : Value} {o : Obj} (h : LedI w A c pl dry s k v W) : (W.alloc o).ownsRow (w.heap.size + 2) 55 4 v (cntsL s k).length ((cntsL s k).flatMap encCnt) := (h.later ((Below.refl _ _).alloc (Nat.le_refl _) _)).row
theorem new_four (W : World) (p : Cnt) : ∀ j u, (encCnt p)[j]? = some u → (W.alloc (.cells #[.int .i64 p.given, .int .i64 p.used, .int .i64 p.left, .int .i64 p.waste] 55)).cell? ((⟨W.heap.size, 0, none⟩ : Addr).add j) = some u := fun j u hu => by
  rw [lit_add]
  have := heap_new W (.cells #[.int .i64 p.given, .int .i64 p.used, .int .i64 p.left, .int .i64 p.waste] 55) _ rfl
  simp only [World.cell?, this]
  simpa [encCnt] using hu
def LedOut (r : List Cnt × Int) (w : World) (e : Ending) (w' : World) : Prop := ∃ A c, e = .returned (.tuple #[.slice A r.1.length c, .int .i64 r.2]) ∧ RdCnts w' A r.1 ∧ Below w.heap.size w w'
theorem cnts_nil (w : World) : RdCnts w none [] := ⟨by simp, by simp⟩
/-- What a store that is found good has. -/
structure GoodS (pl : List Plot) (s : Store) : Prop where
  plots : pl.length ≤ 12
  given : s.given.length = pl.length
  used : Mild s.used
  waste : Mild s.waste
  heaps : MildH s.heaps
  uin : ∀ p ∈ s.used, 0 ≤ p.plot ∧ p.plot < (pl.length : Int)
  win : ∀ p ∈ s.waste, 0 ≤ p.plot ∧ p.plot < (pl.length : Int)
  hin : ∀ x ∈ s.heaps, ∀ p ∈ x.parts, 0 ≤ p.plot ∧ p.plot < (pl.length : Int)
theorem good_store {pl : List Plot} {dry : Int} {s : Store} (h : checkS pl dry s = 0) (hu : s.used.length ≤ 1000000) (hw : s.waste.length ≤ 1000000) (hh : ∀ x ∈ s.heaps, x.parts.length ≤ 1000000) : GoodS pl s := by
  have hc : checkI pl dry = 0 := Decidable.byContradiction fun hc => by rw [checkS_bad hc] at h; exact hc h
  have hs : storeB pl s = true := by
    cases q : storeB pl s with
    | false => rw [checkS_not hc q] at h; cases h
    | true => rfl
  rw [storeB_eq, Bool.and_eq_true, Bool.and_eq_true, Bool.and_eq_true] at hs
  have q' := hs.1.1.1
  simp only [storeHead, Bool.and_eq_true, decide_eq_true_eq] at q'
  obtain ⟨⟨⟨⟨⟨t1, t2⟩, t3⟩, t4⟩, t5⟩, t6⟩ := q'
  refine ⟨(checkI_zero hc).1, t3, proper_mild t5 hu, proper_mild t6 hw, ⟨by omega, fun x hx => ?_⟩, proper_in t5, proper_in t6, fun x hx => ?_⟩ <;> obtain ⟨j, hj, rfl⟩ := List.mem_iff_getElem.1 hx
  · exact proper_mild (heapB_proper (checkS_heap h hj)) (hh _ hx)
  · exact proper_in (heapB_proper (checkS_heap h hj))
end Go.Proofs.Ytpgkhlpepckfgaa
end
