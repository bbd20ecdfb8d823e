
import Derived.Test.YtpgkhlpepckfgaaXa04
import Derived.BigQuiet
import Derived.Deep.QuietTactic
import Derived.LoopTactic
import Derived.Outline
set_option linter.all false
set_option linter.unusedVariables false
set_option linter.unusedSimpArgs false
namespace Go.Proofs.Ytpgkhlpepckfgaa
open Go.RowKit Go.Lib
theorem hasName_hit {l : List Plot} {j k : Nat} {s : ByteArray} (hj : j < k) (hk : j < l.length) (h : l[j].name = s) : hasName l k s = true := by
  unfold hasName
  rw [List.any_eq_true]
  refine ⟨l[j], ?_, by simp [h]⟩
  rw [List.mem_take_iff_getElem]
  exact ⟨j, by omega, rfl⟩
set_option maxHeartbeats 1000000 in
set_option maxRecDepth 100000 in
theorem rcheck_any (A : Option Addr) (c : Nat) (l : List Plot) (dry : Int) (w : World) (h : RdPlots w A l) :
    Calls Try.prog 26 #[.agg #[.slice A l.length c, .int .i64 dry]] w fun e w' => e = .returned (.int .i64 (checkI l dry)) ∧ Below w.heap.size w w' := by
  have hl := h.1.1
  by_cases hlong : 12 < l.length
  · have hR := Lib.hid (checkI_long (dry := dry) hlong)
    have hlong' : 12 < (l.length : Int) := by omega
    go_enter Try.func26, Try.ntmps26
    go_wp2
    go_ret
    exact ⟨by rw [hR.out]; rfl, (Below.refl _ _).alloc (Nat.le_refl _) _⟩
  · have hlong' : ¬ 12 < (l.length : Int) := by omega
    go_enter Try.func26, Try.ntmps26
    go_wp2
    clear hlong'
    go_loopw [3] (fun i wr => ∃ k : Nat, i = .int .i64 k ∧ k ≤ l.length ∧ Hid (∀ j, j < k → plotErr l j = 0) ∧ wr.cell? ⟨w.heap.size, 0, none⟩ = some (.slice A l.length c) ∧ wr.cell? ⟨w.heap.size, 1, none⟩ = some (.int .i64 dry) ∧ w.heap.size < wr.heap.size ∧ Below w.heap.size w wr) (fun i _ => l.length - (intOf i).toNat)
    case atStart => exact ⟨0, rfl, by omega, fun j hj => by omega, by simp, by simp, by simp, ((Below.refl _ w).alloc (Nat.le_refl _) _)⟩
    case round =>
      obtain ⟨k, rfl, hk, hall, hc0, hc1, hsz, hB⟩ := hrel
      by_cases hlt : k < l.length
      · obtain ⟨ad, hA, g0, g1, g2, g3, g4, g5, g6, g7, g8⟩ := (h.1.below hB).at9 hlt rfl
        subst hA
        have hn1 := h.name hlt
        cases q1 : nameB l[k].name with
        | false =>
          have hE := Lib.hid (checkI_stop (dry := dry) hlong hlt hall.out (by rw [plotErr_name hlt q1]; decide))
          have hE2 := Lib.hid (plotErr_name hlt q1)
          go_wp2_with (go_at_call 56; refine (rName_any _ _ (by omega)).mono ?_; rintro e w1 ⟨rfl, rfl⟩)
          go_ret
          exact ⟨by rw [hE.out, hE2.out]; rfl, hB.trans ((Below.refl _ wr).alloc (Nat.le_refl _) _ |>.mono hB.size)⟩
        | true =>
          go_wp2_with (go_at_call 56; refine (rName_any _ _ (by omega)).mono ?_; rintro e w1 ⟨rfl, rfl⟩)
          go_loopw [5] (fun i wi => ∃ j n : Nat, i = .int .i64 j ∧ j ≤ k ∧ Hid (hasName l j l[k].name = false) ∧ wi = (wr.alloc (pblock l[k])).drewN n) (fun i _ => k - (intOf i).toNat)
          case atStart => exact ⟨0, 0, rfl, by omega, rfl, rfl⟩
          case round =>
            obtain ⟨j, n, rfl, hj, hno, rfl⟩ := hrel
            by_cases hjk : j < k
            · obtain ⟨ad2, hA2, p0, _⟩ := ((h.1.below hB).below ((Below.refl _ wr).alloc (Nat.le_refl _) (pblock l[k]))).at9 (show j < l.length by omega) rfl
              cases hA2
              go_wp2
              repeat (go_quiet (fail); try go_wp2)
              · have e := ‹(l[j].name.toList == l[k].name.toList) = true›
                rw [bytes_beq] at e
                have q2 : hasName l k l[k].name = true := hasName_hit hjk (by omega) (of_decide_eq_true e)
                go_ret
                exact ⟨by rw [checkI_stop (dry := dry) hlong hlt hall.out (by rw [plotErr_twice hlt q1 q2]; decide), plotErr_twice hlt q1 q2]; rfl, hB.trans ((((Below.refl _ wr).alloc (Nat.le_refl _) _).trans (below_drewN_ _ _)).trans (below_drewN_ _ _) |>.mono hB.size)⟩
              · have e := ‹(l[j].name.toList == l[k].name.toList) = false›
                rw [bytes_beq] at e
                have q2 : hasName l (j + 1) l[k].name = false := by rw [hasName_succ l j (by omega), hno.out, e]; rfl
                go_roundw
                case rel => exact ⟨j + 1, n + _, by go_num, by omega, q2, rfl⟩
                case measure => simp [intOf]; omega
            · obtain rfl : j = k := by omega
              have q2 := hno.out
              have hBn : Below wr.heap.size wr ((wr.alloc (pblock l[j])).drewN n) := ((Below.refl _ wr).alloc (Nat.le_refl _) _).trans (below_drewN_ _ _)
              have hnsz : wr.heap.size < ((wr.alloc (pblock l[j])).drewN n).heap.size := by simp
              cases q3 : plotOk l[j] with
              | false =>
                have hE := Lib.hid (checkI_stop (dry := dry) hlong hlt hall.out (by rw [plotErr_arg hlt q1 q2 q3]; decide))
                have hE2 := Lib.hid (plotErr_arg hlt q1 q2 q3)
                have q3 := Lib.hid q3
                have hB1 := hBn
                go_wp2_with (first | (go_at_call 49; refine (rin_any _ _ _ _).mono ?_; rintro e w' ⟨rfl, rfl⟩) | (go_at_call 57; refine (rcrop_any _ _).mono ?_; rintro e w' ⟨rfl, rfl⟩) | (go_at_call 58; refine (rspan_any _ _ _ _ _).mono ?_; rintro e w2 ⟨rfl, hb2⟩; obtain ⟨hk2, hf2⟩ := bcell hb2; replace hB1 := hB1.trans (hb2.mono hB1.size); have hz2 := Nat.lt_of_lt_of_le (n := wr.heap.size) (by assumption) hb2.size))
                all_goals first
                  | (exfalso; have q := q3.out; simp_all [plotOk]; done)
                  | (go_ret; exact ⟨by rw [hE.out, hE2.out]; rfl, hB.trans (hB1.mono hB.size)⟩)
              | true =>
                have hS := Lib.hid (below_succ hall.out (plotErr_ok hlt q1 q2 q3))
                have hB1 := hBn
                simp only [plotOk, Bool.and_eq_true] at q3
                obtain ⟨⟨⟨⟨⟨t1, t2⟩, t3⟩, t4⟩, t5⟩, t6⟩ := q3
                go_wp2_with (first | (go_at_call 49; refine (rin_any _ _ _ _).mono ?_; rintro e w' ⟨rfl, rfl⟩) | (go_at_call 57; refine (rcrop_any _ _).mono ?_; rintro e w' ⟨rfl, rfl⟩) | (go_at_call 58; refine (rspan_any _ _ _ _ _).mono ?_; rintro e w2 ⟨rfl, hb2⟩; obtain ⟨hk2, hf2⟩ := bcell hb2; replace hB1 := hB1.trans (hb2.mono hB1.size); have hz2 := Nat.lt_of_lt_of_le (n := wr.heap.size) (by assumption) hb2.size))
                have hs1 := hB1.size
                go_roundw
                case rel => exact ⟨j + 1, by go_num, by omega, hS.out, (hB1.cell (p := ⟨w.heap.size, 0, none⟩) hsz).trans hc0, (hB1.cell (p := ⟨w.heap.size, 1, none⟩) hsz).trans hc1, by omega, hB.trans (hB1.mono hB.size)⟩
                case measure => simp [intOf]; omega
      · obtain rfl : k = l.length := by omega
        have hE := Lib.hid (checkI_end (dry := dry) hlong hall.out)
        cases q : inB dry 0 1000 with
        | true =>
          go_wp2_with (go_at_call 49; refine (rin_any _ _ _ _).mono ?_; rintro e w' ⟨rfl, rfl⟩)
          go_ret
          exact ⟨by rw [hE.out, q]; rfl, hB⟩
        | false =>
          go_wp2_with (go_at_call 49; refine (rin_any _ _ _ _).mono ?_; rintro e w' ⟨rfl, rfl⟩)
          go_ret
          exact ⟨by rw [hE.out, q]; rfl, hB⟩
end Go.Proofs.Ytpgkhlpepckfgaa
