/-
  The specification's comparisons of lists of numbers, walked.
-/
import Derived.Test.YtpgkhlpepckfgaaCEq
import Derived.LoopTactic
import Derived.Deep.QuietTactic
import Derived.BigQuiet
namespace Go.Proofs.Ytpgkhlpepckfgaa
open Go.RowKit Go.Lib

theorem bne_cast {a b : Nat} (h : a ≠ b) : ((a : Int) != (b : Int)) = true := by rw [bne_iff_ne]; omega
theorem bne_cast' {a b : Nat} (h : a = b) : ((a : Int) != (b : Int)) = false := by rw [h]; simp

theorem cmp3_eq {x y : Int} {a b : List Int} (h : x = y) (hl : a.length = b.length) : cmp3 x a y b = cmpL a b := by
  rw [cmp3, orL3, if_pos (compareInt_zero.2 h), if_pos (compareInt_zero.2 (by omega))]
theorem cmp3_len {x y : Int} {a b : List Int} (h : x = y) (hl : a.length ≠ b.length) : decide (cmp3 x a y b < 0) = decide (a.length < b.length) := by
  rw [cmp3, orL3, if_pos (compareInt_zero.2 h), if_neg (fun e => hl (by have := compareInt_zero.1 e; omega))]
  exact decide_eq_decide.2 (compareInt_neg.trans (by omega))
theorem cmp3_cost {x y : Int} {a b : List Int} (h : x ≠ y) : decide (cmp3 x a y b < 0) = decide (x < y) := by
  rw [cmp3, orL3, if_neg (fun e => h (compareInt_zero.1 e))]
  exact decide_eq_decide.2 compareInt_neg

set_option maxHeartbeats 1000000 in
set_option maxRecDepth 100000 in
theorem ahead_any (A B : Option Addr) (ca cb : Nat) (a b : List Int) (x y : Int) (w : World) (h1 : RdInts w A a) (h2 : RdInts w B b) :
    Calls Try.prog 51 #[.slice A a.length ca, .int .i64 x, .slice B b.length cb, .int .i64 y] w fun e w' => e = .returned (.bool (decide (cmp3 x a y b < 0))) ∧ Below w.heap.size w w' := by
  have hl1 := h1.1
  have hl2 := h2.1
  by_cases hxy : x = y
  · by_cases hl : a.length = b.length
    · have hR : Hid (decide (cmp3 x a y b < 0) = decide (cmpL a b < 0)) := by rw [cmp3_eq hxy hl]; rfl
      have b1 : (x != y) = false := by rw [hxy]; simp
      have b2 := bne_cast' hl
      have hl := Lib.hid hl
      clear hxy
      go_enter Try.func51, Try.ntmps51
      go_wp2
      go_loopw [9] (fun i wr => ∃ k n : Nat, i = .int .i64 k ∧ k ≤ a.length ∧ Hid (cmpL a b = cmpL (a.drop k) (b.drop k)) ∧ wr = w.drewN n) (fun i _ => a.length - (intOf i).toNat)
      case atStart => exact ⟨0, 0, rfl, by omega, rfl, rfl⟩
      case round =>
        obtain ⟨k, n, rfl, hk, hE, rfl⟩ := hrel
        by_cases hlt : k < a.length
        · have hlt2 : k < b.length := by have := hl.out; omega
          obtain ⟨ad, hA, g0⟩ := h1.at1 hlt rfl
          obtain ⟨ad2, hA2, g2⟩ := h2.at1 hlt2 rfl
          subst hA
          cases hA2
          have hS := Lib.hid (cmpL_step hlt hlt2)
          by_cases hc : a[k] = b[k]
          · have b3 : (a[k] != b[k]) = false := by rw [hc]; simp
            have hc2 := Lib.hid hc
            clear hc
            go_wp2
            repeat (go_quiet (fail); try go_wp2)
            go_roundw
            case rel => exact ⟨k + 1, n + _, by go_num, by omega, by rw [hE.out, hS.out, if_pos (compareInt_zero.2 hc2.out)]; rfl, rfl⟩
            case measure => simp [intOf]; omega
          · have b3 : (a[k] != b[k]) = true := bne_iff_ne.2 hc
            have hc2 := Lib.hid hc
            clear hc
            go_wp2
            repeat (go_quiet (fail); try go_wp2)
            go_ret
            refine ⟨?_, (below_drewN_ _ _).trans ((below_drewN_ _ _).trans (below_drewN_ _ _))⟩
            rw [hR.out, hE.out, hS.out, if_neg (fun e => hc2.out (compareInt_zero.1 e))]
            exact ret_bool (decide_eq_decide.2 compareInt_neg).symm
        · have hk' : k = a.length := by omega
          have hz : Hid (cmpL a b = 0) := by
            unfold Hid
            rw [hE.out, hk', List.drop_length, List.drop_eq_nil_of_le (by have := hl.out; omega)]; rfl
          go_wp2
          go_ret
          exact ⟨by rw [hR.out, hz.out]; rfl, below_drewN_ _ _⟩
    · have hR := Lib.hid (cmp3_len hxy hl)
      have b1 : (x != y) = false := by rw [hxy]; simp
      have b2 := bne_cast hl
      have hl := Lib.hid hl
      clear hxy
      go_enter Try.func51, Try.ntmps51
      go_wp2
      go_ret
      exact ⟨by rw [hR.out]; rfl, Below.refl _ _⟩
  · have hR := Lib.hid (cmp3_cost (a := a) (b := b) hxy)
    have b1 : (x != y) = true := bne_iff_ne.2 hxy
    have hxy := Lib.hid hxy
    go_enter Try.func51, Try.ntmps51
    go_wp2
    go_ret
    exact ⟨by rw [hR.out]; rfl, Below.refl _ _⟩

set_option maxHeartbeats 1000000 in
set_option maxRecDepth 100000 in
/-- thatchlaw01.SameInts. -/
theorem sameInts_any (A B : Option Addr) (ca cb : Nat) (a b : List Int) (w : World) (h1 : RdInts w A a) (h2 : RdInts w B b) :
    Calls Try.prog 20 #[.slice A a.length ca, .slice B b.length cb] w fun e w' => e = .returned (.bool (decide (a = b))) ∧ Below w.heap.size w w' := by
  have hl1 := h1.1
  have hl2 := h2.1
  by_cases hl : a.length = b.length
  · have b2 := bne_cast' hl
    have hl := Lib.hid hl
    go_enter Try.func20, Try.ntmps20
    go_wp2
    go_loopw [5] (fun i wr => ∃ k n : Nat, i = .int .i64 k ∧ k ≤ a.length ∧ Hid (∀ j (ha : j < a.length) (hb : j < b.length), j < k → a[j] = b[j]) ∧ wr = w.drewN n) (fun i _ => a.length - (intOf i).toNat)
    case atStart => exact ⟨0, 0, rfl, by omega, fun j _ _ hj => by omega, rfl⟩
    case round =>
      obtain ⟨k, n, rfl, hk, hE, rfl⟩ := hrel
      by_cases hlt : k < a.length
      · have hlt2 : k < b.length := by have := hl.out; omega
        obtain ⟨ad, hA, g0⟩ := h1.at1 hlt rfl
        obtain ⟨ad2, hA2, g2⟩ := h2.at1 hlt2 rfl
        subst hA
        cases hA2
        by_cases hc : a[k] = b[k]
        · have b3 : (a[k] != b[k]) = false := by rw [hc]; simp
          have hS : Hid (∀ j (ha : j < a.length) (hb : j < b.length), j < k + 1 → a[j] = b[j]) := fun j ha hb hj => by
            rcases Nat.lt_or_ge j k with h | h
            · exact hE.out j ha hb h
            · obtain rfl : j = k := by omega
              exact hc
          clear hc
          go_wp2
          repeat (go_quiet (fail); try go_wp2)
          go_roundw
          case rel => exact ⟨k + 1, n + _, by go_num, by omega, hS.out, rfl⟩
          case measure => simp [intOf]; omega
        · have b3 : (a[k] != b[k]) = true := bne_iff_ne.2 hc
          have hz : Hid (decide (a = b) = false) := decide_eq_false (fun e => hc (by subst e; rfl))
          clear hc
          go_wp2
          repeat (go_quiet (fail); try go_wp2)
          go_ret
          exact ⟨by rw [hz.out]; rfl, (below_drewN_ _ _).trans (below_drewN_ _ _)⟩
      · have hz : Hid (decide (a = b) = true) := decide_eq_true (List.ext_getElem hl.out fun i ha hb => hE.out i ha hb (by omega))
        go_wp2
        go_ret
        exact ⟨by rw [hz.out]; rfl, below_drewN_ _ _⟩
  · have b2 := bne_cast hl
    have hz : Hid (decide (a = b) = false) := decide_eq_false (fun e => hl (by rw [e]))
    have hl := Lib.hid hl
    go_enter Try.func20, Try.ntmps20
    go_wp2
    go_ret
    exact ⟨by rw [hz.out]; rfl, Below.refl _ _⟩
end Go.Proofs.Ytpgkhlpepckfgaa
