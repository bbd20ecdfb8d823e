/-
  Lists of whole numbers: slices.Compare, cmp.Or, SameInts, walked.
-/
import Derived.Test.YtpgkhlpepckfgaaBase
import Derived.Test.YtpgkhlpepckfgaaShelf
import Derived.WalkLawsBesides
import Derived.WalkSpells
import Derived.Outline
namespace Go.Proofs.Ytpgkhlpepckfgaa
open Go.RowKit Go.Lib

def encI (x : Int) : List Value := [.int .i64 x]
abbrev RdInts (w : World) (A : Option Addr) (l : List Int) : Prop := FlatRow encI 1 w A l

/-- The order of lists. -/
def cmpL : List Int → List Int → Int
  | [], [] => 0
  | [], _ :: _ => -1
  | _ :: _, [] => 1
  | x :: xs, y :: ys => if compareInt x y = 0 then cmpL xs ys else compareInt x y
def orL : List Int → Int
  | [] => 0
  | x :: xs => if x = 0 then orL xs else x

theorem cmpL_step {xs ys : List Int} {k : Nat} (h1 : k < xs.length) (h2 : k < ys.length) : cmpL (xs.drop k) (ys.drop k) = if compareInt xs[k] ys[k] = 0 then cmpL (xs.drop (k + 1)) (ys.drop (k + 1)) else compareInt xs[k] ys[k] := by
  rw [List.drop_eq_getElem_cons h1, List.drop_eq_getElem_cons h2, cmpL]
theorem cmpL_over {xs ys : List Int} {k : Nat} (h1 : k < xs.length) (h2 : ys.length ≤ k) : cmpL (xs.drop k) (ys.drop k) = 1 := by
  rw [List.drop_eq_getElem_cons h1, List.drop_eq_nil_of_le h2, cmpL]
theorem cmpL_end {xs ys : List Int} (h : xs.length ≤ ys.length) : cmpL (xs.drop xs.length) (ys.drop xs.length) = if xs.length < ys.length then -1 else 0 := by
  rw [List.drop_length]
  by_cases hl : xs.length < ys.length
  · rw [List.drop_eq_getElem_cons hl, cmpL, if_pos hl]
  · rw [List.drop_eq_nil_of_le (by omega), cmpL, if_neg hl]
theorem orL_step {xs : List Int} {k : Nat} (h1 : k < xs.length) : orL (xs.drop k) = if xs[k] = 0 then orL (xs.drop (k + 1)) else xs[k] := by
  rw [List.drop_eq_getElem_cons h1, orL]
theorem compareInt_bd (x y : Int) : -1 ≤ compareInt x y ∧ compareInt x y ≤ 1 := by unfold compareInt; split <;> (try split) <;> omega

set_option maxHeartbeats 1000000 in
set_option maxRecDepth 100000 in
theorem cmpS_any (A1 A2 : Option Addr) (c1 c2 : Nat) (xs ys : List Int) (w : World) (h1 : RdInts w A1 xs) (h2 : RdInts w A2 ys) :
    Calls Try.prog 47 #[.slice A1 xs.length c1, .slice A2 ys.length c2] w fun e w' => e = .returned (.int .i64 (cmpL xs ys)) ∧ w' = w := by
  have hl1 := h1.1
  have hl2 := h2.1
  go_enter Try.func47, Try.ntmps47
  go_wp2
  go_loop [11] (fun i => ∃ k : Nat, i = .int .i64 k ∧ k ≤ xs.length ∧ k ≤ ys.length ∧ Hid (cmpL xs ys = cmpL (xs.drop k) (ys.drop k))) (fun i => xs.length - (intOf i).toNat)
  case atStart => exact ⟨0, rfl, by omega, by omega, rfl⟩
  case round =>
    obtain ⟨k, rfl, hk, hk2, hE⟩ := hrel
    by_cases hlt : k < xs.length
    · obtain ⟨ad, hA, g0⟩ := h1.at1 hlt rfl
      subst hA
      by_cases hlt2 : k < ys.length
      · obtain ⟨ad2, hA2, g2⟩ := h2.at1 hlt2 rfl
        subst hA2
        have hS := Lib.hid (cmpL_step hlt hlt2)
        by_cases hc : compareInt xs[k] ys[k] = 0
        · have hc' : (compareInt xs[k] ys[k] != 0) = false := by rw [hc]; rfl
          have hc2 := Lib.hid hc
          clear hc
          go_wp2_with (go_at_call 46; refine (Try.cmp_Compare_int _ _ _).mono ?_; rintro e w' ⟨rfl, rfl⟩)
          go_round
          case rel => exact ⟨k + 1, by go_num, by omega, by omega, by rw [hE.out, hS.out, if_pos hc2.out]; rfl⟩
          case measure => simp [intOf]; omega
        · have hc' : (compareInt xs[k] ys[k] != 0) = true := by rw [bne_iff_ne]; exact hc
          have hc2 := Lib.hid hc
          clear hc
          go_wp2_with (go_at_call 46; refine (Try.cmp_Compare_int _ _ _).mono ?_; rintro e w' ⟨rfl, rfl⟩)
          go_ret
          exact ⟨by rw [hE.out, hS.out, if_neg hc2.out]; rfl, rfl⟩
      · have hS := Lib.hid (cmpL_over hlt (show ys.length ≤ k by omega))
        go_wp2
        go_ret
        exact ⟨by rw [hE.out, hS.out]; rfl, rfl⟩
    · obtain rfl : k = xs.length := by omega
      have hS := Lib.hid (cmpL_end hk2)
      by_cases hl : xs.length < ys.length
      · go_wp2
        go_ret
        exact ⟨by rw [hE.out, hS.out, if_pos hl]; rfl, rfl⟩
      · go_wp2
        go_ret
        exact ⟨by rw [hE.out, hS.out, if_neg hl]; rfl, rfl⟩

set_option maxHeartbeats 1000000 in
theorem or_any (A1 : Option Addr) (c1 : Nat) (xs : List Int) (w : World) (h1 : RdInts w A1 xs) :
    Calls Try.prog 45 #[.slice A1 xs.length c1] w fun e w' => e = .returned (.int .i64 (orL xs)) ∧ w' = w := by
  have hl1 := h1.1
  go_enter Try.func45, Try.ntmps45
  go_wp2
  go_loop [8] (fun i => ∃ k : Nat, i = .int .i64 k ∧ k ≤ xs.length ∧ Hid (orL xs = orL (xs.drop k))) (fun i => xs.length - (intOf i).toNat)
  case atStart => exact ⟨0, rfl, by omega, rfl⟩
  case round =>
    obtain ⟨k, rfl, hk, hE⟩ := hrel
    by_cases hlt : k < xs.length
    · obtain ⟨ad, hA, g0⟩ := h1.at1 hlt rfl
      subst hA
      have hS := Lib.hid (orL_step hlt)
      by_cases hc : xs[k] = 0
      · have hc' : (xs[k] != 0) = false := by rw [hc]; rfl
        have hc2 := Lib.hid hc
        clear hc
        go_wp2
        go_round
        case rel => exact ⟨k + 1, by go_num, by omega, by rw [hE.out, hS.out, if_pos hc2.out]; rfl⟩
        case measure => simp [intOf]; omega
      · have hc' : (xs[k] != 0) = true := by rw [bne_iff_ne]; exact hc
        have hc2 := Lib.hid hc
        clear hc
        go_wp2
        go_ret
        exact ⟨by rw [hE.out, hS.out, if_neg hc2.out]; rfl, rfl⟩
    · obtain rfl : k = xs.length := by omega
      have hS : Hid (orL (xs.drop xs.length) = 0) := by unfold Hid; rw [List.drop_length]; rfl
      go_wp2
      go_ret
      exact ⟨by rw [hE.out, hS.out]; rfl, rfl⟩
end Go.Proofs.Ytpgkhlpepckfgaa
