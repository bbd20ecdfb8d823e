/-
  Whether parts are in order, as the specification has it: walked.
-/
import Derived.Test.YtpgkhlpepckfgaaSWalk
import Derived.RegionTactic
namespace Go.Proofs.Ytpgkhlpepckfgaa
open Go.RowKit Go.Lib

theorem partAt_get {n : Nat} {l : List Portion} {k : Nat} (hk : k < l.length) : partAt n l k = (inB l[k].plot 0 ((n : Int) - 1) && inB l[k].loads 1 100000 && (decide (k = 0) || decide ((l.getD (k - 1) default).plot ≠ l[k].plot))) := by
  unfold partAt; rw [getD_lt _ hk]

set_option maxHeartbeats 2000000 in
set_option maxRecDepth 100000 in
theorem ordered_any (A B : Option Addr) (c cb : Nat) (pl : List Plot) (dry : Int) (l : List Portion) (w : World) (h : RdPlots w A pl) (h2 : RdParts w B l) :
    Calls Try.prog 87 #[.agg #[.slice A pl.length c, .int .i64 dry], .slice B l.length cb] w fun e w' => e = .returned (.bool (properB pl.length l)) ∧ Below w.heap.size w w' := by
  have hl1 := h.1.1
  have hl2 := h2.1
  go_enter Try.func87, Try.ntmps87
  go_wp2
  go_loopw [5] (fun i wr => ∃ k : Nat, i = .int .i64 k ∧ k ≤ l.length ∧ Hid (∀ j, j < k → partAt pl.length l j = true) ∧ w.heap.size < wr.heap.size ∧ Hid (wr.heap[w.heap.size]? = some (.cells #[.slice A pl.length c, .int .i64 dry] 24 (0, 0))) ∧ Hid (Below w.heap.size w wr)) (fun i _ => l.length - (intOf i).toNat)
  case atStart => exact ⟨0, rfl, by omega, (fun j h => absurd h (Nat.not_lt_zero _)), by simp, heap_new _ _ _ rfl, (Below.refl _ w).alloc (Nat.le_refl _) _⟩
  case round =>
    obtain ⟨k, rfl, hk, hall, hsz, hF, hB⟩ := hrel
    have y1 := cell_of_two hF.out
    by_cases hlt : k < l.length
    · obtain ⟨ad, hA, p0, p1⟩ := FlatRow.at2 (FlatRow.below h2 hB.out) hlt rfl
      subst hA
      have hpa := partAt_get (n := pl.length) hlt
      obtain ⟨pp, hpp⟩ : ∃ pp, pp = l[k].plot := ⟨_, rfl⟩
      obtain ⟨ll, hll⟩ : ∃ ll, ll = l[k].loads := ⟨_, rfl⟩
      rw [← hpp] at p0 hpa
      rw [← hll] at p1 hpa
      replace hpp := Lib.hid hpp
      replace hll := Lib.hid hll
      have hq1 : ∀ n, Calls Try.prog 49 #[.int .i64 pp, .int .i64 0, .int .i64 ((pl.length : Int) - 1)] (wr.drewN n) fun e w' => e = .returned (.bool (inB pp 0 ((pl.length : Int) - 1))) ∧ w' = wr.drewN n := fun n => (rin_any _ _ _ _).mono fun _ _ ⟨a, b⟩ => ⟨a, b.symm⟩
      have hq2 : ∀ n, Calls Try.prog 49 #[.int .i64 ll, .int .i64 1, .int .i64 100000] (wr.drewN n) fun e w' => e = .returned (.bool (inB ll 1 100000)) ∧ w' = wr.drewN n := fun n => (rin_any _ _ _ _).mono fun _ _ ⟨a, b⟩ => ⟨a, b.symm⟩
      have hBn : ∀ n, Hid (Below w.heap.size w (wr.drewN n)) := fun n => hB.out.trans (below_drewN_ wr n)
      cases h1 : inB pp 0 ((pl.length : Int) - 1) with
      | false =>
        rw [h1] at hpa hq1
        simp only [Bool.false_and] at hpa
        have hpa := Lib.hid hpa
        go_wp2
        go_big_quiet (first | (go_at_call_of 49 (Value.int IntKind.i64 pp); exact Calls.quiet_of_same (hq1 _)) | (go_at_call 49; exact Calls.quiet_of_same (hq2 _)))
        go_wp2
        refine bodyPost_ret (v := .bool false) (by simp [results, Try.results87, go_sem]) rfl ⟨by rw [properB, allB_stop hlt hpa.out], hBn _⟩
      | true =>
        rw [h1] at hpa hq1
        simp only [Bool.true_and] at hpa
        cases h3 : inB ll 1 100000 with
        | false =>
          rw [h3] at hpa hq2
          simp only [Bool.false_and] at hpa
          have hpa := Lib.hid hpa
          go_wp2
          go_big_quiet (first | (go_at_call_of 49 (Value.int IntKind.i64 pp); exact Calls.quiet_of_same (hq1 _)) | (go_at_call 49; exact Calls.quiet_of_same (hq2 _)))
          go_wp2
          refine bodyPost_ret (v := .bool false) (by simp [results, Try.results87, go_sem]) rfl ⟨by rw [properB, allB_stop hlt hpa.out], hBn _⟩
        | true =>
          rw [h3] at hpa hq2
          simp only [Bool.true_and] at hpa
          by_cases hk0 : k = 0
          · have hpa : Hid (partAt pl.length l k = true) := by unfold Hid; rw [hpa, hk0]; rfl
            have cb3 : decide ((0 : Int) < (k : Int)) = false := decide_eq_false (by omega)
            have cb3' : decide (0 < k) = false := decide_eq_false (by omega)
            clear hk0
            go_wp2
            go_big_quiet (first | (go_at_call_of 49 (Value.int IntKind.i64 pp); exact Calls.quiet_of_same (hq1 _)) | (go_at_call 49; exact Calls.quiet_of_same (hq2 _)))
            go_wp2
            exact ⟨⟨k + 1, by go_num, by omega, succ_all hall.out hpa.out, hsz, hF, hBn _⟩, by simp only [intOf]; omega⟩
          · obtain ⟨k', rfl⟩ : ∃ k', k = k' + 1 := ⟨k - 1, by omega⟩
            have hlt' : k' < l.length := by omega
            obtain ⟨ad', hA', r0, r1⟩ := FlatRow.at2 (FlatRow.below h2 hB.out) hlt' rfl
            cases hA'
            rw [Nat.add_sub_cancel, getD_lt _ hlt'] at hpa
            simp only [Nat.succ_ne_zero, decide_false, Bool.false_or] at hpa
            have cb3 : decide ((0 : Int) < ((k' + 1 : Nat) : Int)) = true := decide_eq_true (by omega)
            have cb3' : decide ((0 : Int) < ((k' : Nat) : Int) + 1) = true := decide_eq_true (by omega)
            by_cases he : l[k'].plot = pp
            · have hpa : Hid (partAt pl.length l (k' + 1) = false) := by unfold Hid; rw [hpa]; simp [he]
              have cb4 : (l[k'].plot == pp) = true := by rw [he]; simp
              go_wp2
              go_big_quiet (first | (go_at_call_of 49 (Value.int IntKind.i64 pp); exact Calls.quiet_of_same (hq1 _)) | (go_at_call 49; exact Calls.quiet_of_same (hq2 _)))
              go_wp2
              refine bodyPost_ret (v := .bool false) (by simp [results, Try.results87, go_sem]) rfl ⟨by rw [properB, allB_stop hlt hpa.out], hBn _⟩
            · have hpa : Hid (partAt pl.length l (k' + 1) = true) := by unfold Hid; rw [hpa]; simp [he]
              have cb4 : (l[k'].plot == pp) = false := by simpa using he
              go_wp2
              go_big_quiet (first | (go_at_call_of 49 (Value.int IntKind.i64 pp); exact Calls.quiet_of_same (hq1 _)) | (go_at_call 49; exact Calls.quiet_of_same (hq2 _)))
              go_wp2
              exact ⟨⟨k' + 1 + 1, by go_num, by omega, succ_all hall.out hpa.out, hsz, hF, hBn _⟩, by simp only [intOf]; omega⟩
    · have hke : k = l.length := by omega
      subst hke
      go_wp2
      refine bodyPost_ret (v := .bool true) (by simp [results, Try.results87, go_sem]) rfl ⟨by rw [properB, allB_end hall.out], hB.out⟩
end Go.Proofs.Ytpgkhlpepckfgaa
