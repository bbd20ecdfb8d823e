/-
  Whether parts are in order: straw.proper, walked.
-/
import Derived.Test.YtpgkhlpepckfgaaSOrd
namespace Go.Proofs.Ytpgkhlpepckfgaa
open Go.RowKit Go.Lib

def lastAt (l : List Portion) (k : Nat) : Int := if k = 0 then -1 else (l.getD (k - 1) default).plot
theorem lastAt_succ {l : List Portion} {k : Nat} (h : k < l.length) : lastAt l (k + 1) = l[k].plot := by
  unfold lastAt; rw [if_neg (by omega), Nat.add_sub_cancel, getD_lt _ h]
theorem partAt_last {n : Nat} {l : List Portion} {k : Nat} (hk : k < l.length) : partAt n l k = (decide (l[k].plot ≠ lastAt l k) && inB l[k].plot 0 ((n : Int) - 1) && inB l[k].loads 1 100000) := by
  rw [partAt_get hk]
  unfold lastAt
  by_cases h0 : k = 0
  · subst h0
    rw [if_pos rfl]
    by_cases h1 : l[0].plot = -1
    · simp [h1, inB]
    · simp [h1]
  · rw [if_neg h0]
    rw [Bool.eq_iff_iff]
    simp only [Bool.and_eq_true, Bool.or_eq_true, decide_eq_true_eq]
    constructor
    · rintro ⟨⟨a, b⟩, c⟩
      exact ⟨⟨fun e => by rcases c with c | c; exact h0 c; exact c e.symm, a⟩, b⟩
    · rintro ⟨⟨a, b⟩, c⟩
      exact ⟨⟨b, c⟩, .inr fun e => a e.symm⟩

set_option maxHeartbeats 2000000 in
set_option maxRecDepth 100000 in
theorem proper_any (A B : Option Addr) (c cb : Nat) (pl : List Plot) (dry : Int) (l : List Portion) (w : World) (h : RdPlots w A pl) (h2 : RdParts w B l) :
    Calls Try.prog 60 #[.agg #[.slice A pl.length c, .int .i64 dry], .slice B l.length cb] w fun e w' => e = .returned (.bool (properB pl.length l)) ∧ Below w.heap.size w w' := by
  have hl1 := h.1.1
  have hl2 := h2.1
  go_enter Try.func60, Try.ntmps60
  go_wp2
  go_loopw [5, 10] (fun v i wr => ∃ k : Nat, i = .int .i64 k ∧ v = .int .i64 (lastAt l k) ∧ k ≤ l.length ∧ Hid (∀ j, j < k → partAt pl.length l j = true) ∧ w.heap.size < wr.heap.size ∧ Hid (wr.heap[w.heap.size]? = some (.cells #[.slice A pl.length c, .int .i64 dry] 24 (0, 0))) ∧ Hid (Below w.heap.size w wr)) (fun _ i _ => l.length - (intOf i).toNat)
  case atStart => exact ⟨0, rfl, rfl, by omega, (fun j h => absurd h (Nat.not_lt_zero _)), by simp, heap_new _ _ _ rfl, (Below.refl _ w).alloc (Nat.le_refl _) _⟩
  case round =>
    obtain ⟨k, rfl, rfl, hk, hall, hsz, hF, hB⟩ := hrel
    have y1 := cell_of_two hF.out
    by_cases hlt : k < l.length
    · obtain ⟨ad, hA, p0, p1⟩ := FlatRow.at2 (FlatRow.below h2 hB.out) hlt rfl
      subst hA
      have hpa := partAt_last (n := pl.length) hlt
      have hls := lastAt_succ hlt
      obtain ⟨pp, hpp⟩ : ∃ pp, pp = l[k].plot := ⟨_, rfl⟩
      obtain ⟨ll, hll⟩ : ∃ ll, ll = l[k].loads := ⟨_, rfl⟩
      rw [← hpp] at p0 hpa hls
      rw [← hll] at p1 hpa
      replace hpp := Lib.hid hpp
      replace hll := Lib.hid hll
      replace hls := Lib.hid hls
      have hBx : ∀ o : Obj, Hid (Below w.heap.size w (wr.alloc o)) := fun o => hB.out.alloc (Nat.le_of_lt hsz) o
      have hFx : ∀ o : Obj, Hid ((wr.alloc o).heap[w.heap.size]? = some (.cells #[.slice A pl.length c, .int .i64 dry] 24 (0, 0))) := fun o => heap_old _ _ _ _ hF.out
      generalize hlv : lastAt l k = lv at hpa
      cases hpt : partAt pl.length l k with
      | true =>
        rw [hpt] at hpa
        have hpa' := hpa.symm
        simp only [Bool.and_eq_true, decide_eq_true_eq] at hpa'
        obtain ⟨⟨c1, c2⟩, c3⟩ := hpa'
        clear hpa
        have cb : (pp == lv) = false := by simpa using c1
        have hpt := Lib.hid hpt
        have hall2 := Lib.hid (succ_all hall.out hpt.out)
        go_wp2_with (go_at_call 43; refine (in_any _ _ _ _).mono ?_; rintro e w' ⟨rfl, rfl⟩)
        exact ⟨⟨k + 1, by go_num, by rw [hls.out], by omega, hall2, by rw [World.size_alloc]; omega, hFx _, hBx _⟩, by simp only [intOf]; omega⟩
      | false =>
        rw [hpt] at hpa
        have hpt := Lib.hid hpt
        by_cases c1 : pp = lv
        · have cb : (pp == lv) = true := by simpa using c1
          replace c1 := Lib.hid c1
          clear hpa
          go_wp2_with (go_at_call 43; refine (in_any _ _ _ _).mono ?_; rintro e w' ⟨rfl, rfl⟩)
          refine bodyPost_ret (v := .bool false) (by simp [results, Try.results60, go_sem]) rfl ⟨by rw [properB, allB_stop hlt hpt.out], hBx _⟩
        · have cb : (pp == lv) = false := by simpa using c1
          have hpa' : (inB pp 0 ((pl.length : Int) - 1) && inB ll 1 100000) = false := by simpa [c1] using hpa.symm
          clear hpa
          cases c2 : inB pp 0 ((pl.length : Int) - 1)
          · go_wp2_with (go_at_call 43; refine (in_any _ _ _ _).mono ?_; rintro e w' ⟨rfl, rfl⟩)
            refine bodyPost_ret (v := .bool false) (by simp [results, Try.results60, go_sem]) rfl ⟨by rw [properB, allB_stop hlt hpt.out], hBx _⟩
          · rw [c2, Bool.true_and] at hpa'
            go_wp2_with (go_at_call 43; refine (in_any _ _ _ _).mono ?_; rintro e w' ⟨rfl, rfl⟩)
            refine bodyPost_ret (v := .bool false) (by simp [results, Try.results60, go_sem]) rfl ⟨by rw [properB, allB_stop hlt hpt.out], hBx _⟩
    · have hke : k = l.length := by omega
      subst hke
      go_wp2
      refine bodyPost_ret (v := .bool true) (by simp [results, Try.results60, go_sem]) rfl ⟨by rw [properB, allB_end hall.out], hB.out⟩
end Go.Proofs.Ytpgkhlpepckfgaa
