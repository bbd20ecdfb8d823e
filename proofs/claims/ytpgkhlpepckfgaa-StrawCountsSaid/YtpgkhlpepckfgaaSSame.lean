/-
  Lists of numbers, of parts, and stores that are one and the same: walked.
-/
import Derived.Test.YtpgkhlpepckfgaaSWalk
import Derived.Test.YtpgkhlpepckfgaaRInts
import Derived.LoopTactic
import Derived.Deep.QuietTactic
import Derived.BigQuiet
namespace Go.Proofs.Ytpgkhlpepckfgaa
open Go.RowKit Go.Lib

set_option maxHeartbeats 1000000 in
set_option maxRecDepth 100000 in
theorem rsameInts_any (A B : Option Addr) (ca cb : Nat) (a b : List Int) (w : World) (h1 : RdInts w A a) (h2 : RdInts w B b) :
    Calls Try.prog 59 #[.slice A a.length ca, .slice B b.length cb] w fun e w' => e = .returned (.bool (decide (a = b))) ∧ Below w.heap.size w w' := by
  have hl1 := h1.1
  have hl2 := h2.1
  by_cases hl : a.length = b.length
  · have b2 := bne_cast' hl
    have hl := Lib.hid hl
    go_enter Try.func59, Try.ntmps59
    go_wp2
    go_loopw [5] (fun i wr => ∃ k n : Nat, i = .int .i64 k ∧ k ≤ a.length ∧ Hid (∀ j (ha : j < a.length) (hb : j < b.length), j < k → a[j] = b[j]) ∧ wr = w.drewN n) (fun i _ => a.length - (intOf i).toNat)
    case atStart => exact ⟨0, 0, rfl, by omega, fun j _ _ hj => by omega, rfl⟩
    case round =>
      obtain ⟨k, n, rfl, hk, hE, rfl⟩ := hrel
      by_cases hlt : k < a.length
      · have hlt2 : k < b.length := by have := hl.out; omega
        obtain ⟨ad, hA, g0⟩ := h1.at1 hlt rfl
        obtain ⟨ad2, hA2, g2⟩ := h2.at1 hlt2 rfl
        subst hA
        cases hA2
        by_cases hc : a[k] = b[k]
        · have b3 : (a[k] != b[k]) = false := by rw [hc]; simp
          have hS : Hid (∀ j (ha : j < a.length) (hb : j < b.length), j < k + 1 → a[j] = b[j]) := fun j ha hb hj => by
            rcases Nat.lt_or_ge j k with h | h
            · exact hE.out j ha hb h
            · obtain rfl : j = k := by omega
              exact hc
          clear hc
          go_wp2
          repeat (go_quiet (fail); try go_wp2)
          go_roundw
          case rel => exact ⟨k + 1, n + _, by go_num, by omega, hS.out, rfl⟩
          case measure => simp [intOf]; omega
        · have b3 : (a[k] != b[k]) = true := bne_iff_ne.2 hc
          have hz : Hid (decide (a = b) = false) := decide_eq_false (fun e => hc (by subst e; rfl))
          clear hc
          go_wp2
          repeat (go_quiet (fail); try go_wp2)
          go_ret
          exact ⟨by rw [hz.out]; rfl, (below_drewN_ _ _).trans (below_drewN_ _ _)⟩
      · have hz : Hid (decide (a = b) = true) := decide_eq_true (List.ext_getElem hl.out fun i ha hb => hE.out i ha hb (by omega))
        go_wp2
        go_ret
        exact ⟨by rw [hz.out]; rfl, below_drewN_ _ _⟩
  · have b2 := bne_cast hl
    have hz : Hid (decide (a = b) = false) := decide_eq_false (fun e => hl (by rw [e]))
    have hl := Lib.hid hl
    go_enter Try.func59, Try.ntmps59
    go_wp2
    go_ret
    exact ⟨by rw [hz.out]; rfl, Below.refl _ _⟩

set_option maxHeartbeats 1000000 in
set_option maxRecDepth 100000 in
theorem sameParts_any (A B : Option Addr) (ca cb : Nat) (a b : List Portion) (w : World) (h1 : RdParts w A a) (h2 : RdParts w B b) :
    Calls Try.prog 34 #[.slice A a.length ca, .slice B b.length cb] w fun e w' => e = .returned (.bool (decide (a = b))) ∧ Below w.heap.size w w' := by
  have hl1 := h1.1
  have hl2 := h2.1
  by_cases hl : a.length = b.length
  · have b2 := bne_cast' hl
    have hl := Lib.hid hl
    go_enter Try.func34, Try.ntmps34
    go_wp2
    go_loopw [5] (fun i wr => ∃ k n : Nat, i = .int .i64 k ∧ k ≤ a.length ∧ Hid (∀ j (ha : j < a.length) (hb : j < b.length), j < k → a[j] = b[j]) ∧ wr = w.drewN n) (fun i _ => a.length - (intOf i).toNat)
    case atStart => exact ⟨0, 0, rfl, by omega, fun j _ _ hj => by omega, rfl⟩
    case round =>
      obtain ⟨k, n, rfl, hk, hE, rfl⟩ := hrel
      by_cases hlt : k < a.length
      · have hlt2 : k < b.length := by have := hl.out; omega
        obtain ⟨ad, hA, g0, g1⟩ := FlatRow.at2 h1 hlt rfl
        obtain ⟨ad2, hA2, g2, g3⟩ := FlatRow.at2 h2 hlt2 rfl
        subst hA
        cases hA2
        by_cases hc : a[k] = b[k]
        · have e1 : a[k].plot = b[k].plot := by rw [hc]
          have e2 : a[k].loads = b[k].loads := by rw [hc]
          have hS : Hid (∀ j (ha : j < a.length) (hb : j < b.length), j < k + 1 → a[j] = b[j]) := fun j ha hb hj => by
            rcases Nat.lt_or_ge j k with h | h
            · exact hE.out j ha hb h
            · obtain rfl : j = k := by omega
              exact hc
          clear hc
          go_wp2
          repeat (go_quiet (fail); try go_wp2)
          go_roundw
          case rel => exact ⟨k + 1, n + _, by go_num, by omega, hS.out, rfl⟩
          case measure => simp [intOf]; omega
        · have hpq : a[k].plot ≠ b[k].plot ∨ a[k].loads ≠ b[k].loads := by
            by_cases h : a[k].plot = b[k].plot
            · right; intro h2; exact hc (by cases h0 : a[k]; cases h3 : b[k]; rw [h0, h3] at h h2; simp_all)
            · exact .inl h
          have hz : Hid (decide (a = b) = false) := decide_eq_false (fun e => hc (by subst e; rfl))
          clear hc
          by_cases e1 : a[k].plot = b[k].plot
          · have e2 : a[k].loads ≠ b[k].loads := by rcases hpq with h | h; exact absurd e1 h; exact h
            have b1 : (a[k].plot == b[k].plot) = true := by simpa using e1
            have b4 : (a[k].loads == b[k].loads) = false := by simpa using e2
            have b5 : (a[k].loads != b[k].loads) = true := bne_iff_ne.2 e2
            clear hpq
            go_wp2
            go_big_quiet (fail)
            go_wp2
            go_ret
            exact ⟨by rw [hz.out]; rfl, (below_drewN_ _ _).trans (below_drewN_ _ _)⟩
          · have b1 : (a[k].plot == b[k].plot) = false := by simpa using e1
            have b5 : (a[k].plot != b[k].plot) = true := bne_iff_ne.2 e1
            clear hpq
            go_wp2
            go_big_quiet (fail)
            go_wp2
            go_ret
            exact ⟨by rw [hz.out]; rfl, (below_drewN_ _ _).trans (below_drewN_ _ _)⟩
      · have hz : Hid (decide (a = b) = true) := decide_eq_true (List.ext_getElem hl.out fun i ha hb => hE.out i ha hb (by omega))
        go_wp2
        go_ret
        exact ⟨by rw [hz.out]; rfl, below_drewN_ _ _⟩
  · have b2 := bne_cast hl
    have hz : Hid (decide (a = b) = false) := decide_eq_false (fun e => hl (by rw [e]))
    have hl := Lib.hid hl
    go_enter Try.func34, Try.ntmps34
    go_wp2
    go_ret
    exact ⟨by rw [hz.out]; rfl, Below.refl _ _⟩

end Go.Proofs.Ytpgkhlpepckfgaa
