/-
  Walks of the small tests: names, numbers between two others, spans, crops.
-/
import Derived.Test.YtpgkhlpepckfgaaShelf
import Derived.Test.YtpgkhlpepckfgaaName
import Derived.WalkKit
import Derived.WalkLawsBesides
import Derived.WalkSpells
import Derived.Deep.LoopGhost
import Derived.Outline
import Derived.Lib.Hide
namespace Go.Proofs.Ytpgkhlpepckfgaa
open Go.RowKit Go.Lib

/-- n lies between two numbers. -/
def inB (n lo hi : Int) : Bool := decide (lo ≤ n) && decide (n ≤ hi)
def spanB (a b lo hi : Int) : Bool := decide (lo ≤ a) && decide (a ≤ b) && decide (b ≤ hi)
def cropB (c : Int) : Bool := decide (1 ≤ c) && decide (c ≤ 3)

theorem in_any (a b c : Int) (w : World) :
    Calls Try.prog 43 #[.int .i64 a, .int .i64 b, .int .i64 c] w fun e w' => e = .returned (.bool (inB a b c)) ∧ w = w' := by
  by_cases h1 : b ≤ a
  all_goals
    go_enter Try.func43, Try.ntmps43
    go_wp2
    go_ret
    simp [inB, h1]
    try omega
theorem rin_any (a b c : Int) (w : World) :
    Calls Try.prog 49 #[.int .i64 a, .int .i64 b, .int .i64 c] w fun e w' => e = .returned (.bool (inB a b c)) ∧ w = w' := by
  by_cases h1 : b ≤ a
  all_goals
    go_enter Try.func49, Try.ntmps49
    go_wp2
    go_ret
    simp [inB, h1]
    try omega
theorem r1In_any (a b c : Int) (w : World) :
    Calls Try.prog 84 #[.int .i64 a, .int .i64 b, .int .i64 c] w fun e w' => e = .returned (.bool (inB a b c)) ∧ w = w' := by
  by_cases h1 : b ≤ a
  all_goals
    go_enter Try.func84, Try.ntmps84
    go_wp2
    go_ret
    simp [inB, h1]
    try omega
theorem grows_any (a : Int) (w : World) :
    Calls Try.prog 54 #[.int .i64 a] w fun e w' => e = .returned (.bool (cropB a)) ∧ w = w' := by
  by_cases h1 : 1 ≤ a
  all_goals
    go_enter Try.func54, Try.ntmps54
    go_wp2
    go_ret
    simp [cropB, h1]
    try omega
theorem rcrop_any (a : Int) (w : World) :
    Calls Try.prog 57 #[.int .i64 a] w fun e w' => e = .returned (.bool (cropB a)) ∧ w = w' := by
  by_cases h1 : 1 ≤ a
  all_goals
    go_enter Try.func57, Try.ntmps57
    go_wp2
    go_ret
    simp [cropB, h1]
    try omega
theorem spans_any (a b lo hi : Int) (w : World) :
    Calls Try.prog 55 #[.agg #[.int .i64 a, .int .i64 b], .int .i64 lo, .int .i64 hi] w fun e w' => e = .returned (.bool (spanB a b lo hi)) ∧ Below w.heap.size w w' := by
  by_cases h1 : lo ≤ a <;> by_cases h2 : a ≤ b
  all_goals
    go_enter Try.func55, Try.ntmps55
    go_wp2
    go_ret
    exact ⟨by simp [spanB, h1, h2]; try omega, (Below.refl _ _).alloc (Nat.le_refl _) _⟩
theorem rspan_any (a b lo hi : Int) (w : World) :
    Calls Try.prog 58 #[.agg #[.int .i64 a, .int .i64 b], .int .i64 lo, .int .i64 hi] w fun e w' => e = .returned (.bool (spanB a b lo hi)) ∧ Below w.heap.size w w' := by
  by_cases h1 : lo ≤ a <;> by_cases h2 : a ≤ b
  all_goals
    go_enter Try.func58, Try.ntmps58
    go_wp2
    go_ret
    exact ⟨by simp [spanB, h1, h2]; try omega, (Below.refl _ _).alloc (Nat.le_refl _) _⟩

theorem beq45 (r : Nat) : ((r : Int) == 45) = decide (r = 45) := by rw [Bool.eq_iff_iff]; simp; omega
/-- What strings.ContainsFunc is handed by isName. -/
theorem bad_pred (w : World) : PredAt Try.prog 83 #[] encR badRune w := fun W r _ => by
  unfold FnGives
  have hN : Hid (badRune r = !((decide (97 ≤ r) && decide (r ≤ 122)) || (decide (48 ≤ r) && decide (r ≤ 57)) || decide (r = 45))) := rfl
  have z1 : (97 : Int) ≤ (r : Int) ↔ 97 ≤ r := by omega
  have z2 : (r : Int) ≤ 122 ↔ r ≤ 122 := by omega
  have z3 : (48 : Int) ≤ (r : Int) ↔ 48 ≤ r := by omega
  have z4 : (r : Int) ≤ 57 ↔ r ≤ 57 := by omega
  by_cases h1 : 97 ≤ r <;> by_cases h2 : r ≤ 122 <;> by_cases h3 : 48 ≤ r <;> by_cases h4 : r ≤ 57
  all_goals first | (exfalso; omega) | skip
  all_goals
    go_enter Try.func83, Try.ntmps83
    go_wp2
    all_goals first | (exfalso; omega) | (go_ret; exact ⟨by rw [hN.out]; simp [h1, h2, h3, h4]; try exact beq45 r, 0, rfl⟩)


theorem empty_iff (s : ByteArray) : s.toList.isEmpty = decide (s.size = 0) := by
  rw [Lib.toList_data]
  have hl : s.data.toList.length = s.size := by simp
  cases h : s.data.toList with
  | nil => rw [h] at hl; have h2 : s.size = 0 := hl.symm; rw [decide_eq_true h2]; rfl
  | cons x l => rw [h] at hl; simp only [List.length_cons] at hl; have h2 : ¬ s.size = 0 := by omega
                rw [decide_eq_false h2]; rfl
theorem get_get (s : ByteArray) (i : Nat) (h : i < s.size) : s.get! i = s[i] := by
  show s.data[i]! = s.data[i]
  exact getElem!_pos s.data i h

/-- straw.isName. -/
theorem isName_any (s : ByteArray) (w : World) (hs : s.size ≤ 9223372036854775807) :
    Calls Try.prog 53 #[.string s] w fun e w' => e = .returned (.bool (nameB s)) ∧ Below w.heap.size w w' := by
  have hC := fun W => Any.strings_ContainsFunc Try.laysGw17 83 #[] (enters_of Try.func83 (by kernel_rfl) rfl) badRune s W (bad_pred W)
  change ∀ W, Calls Try.prog 82 _ _ _ at hC
  have HC := Lib.hid hC
  clear hC
  by_cases h0 : s.size = 0
  · have hN : Hid (nameB s = false) := by simp [nameB, h0, Hid]
    have hn : s.toList = [] := by have := empty_iff s; rw [h0] at this; simpa using this
    go_enter Try.func53, Try.ntmps53
    go_wp2
    go_ret
    exact ⟨by rw [hN.out]; rfl, Below.refl _ _⟩
  · have hp : 0 < s.size := by omega
    have he : s.toList.isEmpty = false := by rw [empty_iff]; simp [h0]
    have he2 : ¬ s.toList = [] := by intro e; rw [e] at he; cases he
    by_cases h1 : 16 < s.size
    · have hN : Hid (nameB s = false) := by unfold Hid nameB; simp; omega
      have h1' : 16 < (s.size : Int) := by omega
      go_enter Try.func53, Try.ntmps53
      go_wp2
      go_ret
      exact ⟨by rw [hN.out]; rfl, Below.refl _ _⟩
    · have h1' : ¬ 16 < (s.size : Int) := by omega
      have hN : Hid (nameB s = (decide (97 ≤ s[0].toNat) && decide (s[0].toNat ≤ 122) && allNameBytes s)) := by
        unfold Hid nameB
        rw [get_get s 0 hp]
        have : 1 ≤ s.size ∧ s.size ≤ 16 := by omega
        simp [this]
      have hI := Lib.hid (idx_bad s)
      by_cases h2 : 97 ≤ s[0].toNat
      · by_cases h3 : s[0].toNat ≤ 122
        · have h2' : ¬ ((s[0].toNat : Nat) : Int) < 97 := by omega
          have h3' : ¬ 122 < ((s[0].toNat : Nat) : Int) := by omega
          go_enter Try.func53, Try.ntmps53
          go_wp2_with (go_at_call 82; refine (HC.out _).mono ?_; rintro e w' ⟨rfl, hb⟩)
          all_goals first | (exfalso; omega) | skip
          go_ret
          exact ⟨by rw [hN.out, hI.out]; simp [h2, h3], hb⟩
        · have h2' : ¬ ((s[0].toNat : Nat) : Int) < 97 := by omega
          have h3' : 122 < ((s[0].toNat : Nat) : Int) := by omega
          go_enter Try.func53, Try.ntmps53
          go_wp2_with fail
          go_ret
          exact ⟨by rw [hN.out]; simp [h3], Below.refl _ _⟩
      · have h2' : ((s[0].toNat : Nat) : Int) < 97 := by omega
        go_enter Try.func53, Try.ntmps53
        go_wp2_with fail
        go_ret
        exact ⟨by rw [hN.out]; simp [h2], Below.refl _ _⟩

theorem ncast_beq (a b : Nat) : ((a : Int) == (b : Int)) = decide (a = b) := by rw [Bool.eq_iff_iff]; simp; omega

theorem allName_true {s : ByteArray} (h : ∀ i, i < s.size → nameByte (s.get! i).toNat = true) : allNameBytes s = true := by unfold allNameBytes; exact decide_eq_true h
theorem allName_false {s : ByteArray} {i : Nat} (hi : i < s.size) (h : nameByte (s.get! i).toNat = false) : allNameBytes s = false := by
  unfold allNameBytes; exact decide_eq_false (fun hx => by rw [hx i hi] at h; cases h)
theorem nameByte_tests (b : Nat) : nameByte b = !((decide ((b : Int) < 97) || decide (122 < (b : Int))) && ((decide ((b : Int) < 48) || decide (57 < (b : Int)))) && !decide (b = 45)) := by
  rw [Bool.eq_iff_iff]; simp [nameByte]; omega

/-- thatchref01.Name. -/
theorem rName_any (s : ByteArray) (w : World) (hs : s.size ≤ 9223372036854775807) :
    Calls Try.prog 56 #[.string s] w fun e w' => e = .returned (.bool (nameB s)) ∧ w = w' := by
  by_cases hlen : 1 ≤ s.size ∧ s.size ≤ 16
  · obtain ⟨hp, hle⟩ := hlen
    have hin : inB (s.size : Int) 1 16 = true := by simp [inB]; omega
    have hN : Hid (nameB s = (decide (97 ≤ s[0].toNat) && decide (s[0].toNat ≤ 122) && allNameBytes s)) := by
      unfold Hid nameB
      rw [get_get s 0 hp]
      have : 1 ≤ s.size ∧ s.size ≤ 16 := by omega
      simp [this]
    by_cases h2 : 97 ≤ s[0].toNat
    · by_cases h3 : s[0].toNat ≤ 122
      · have h2' : ¬ ((s[0].toNat : Nat) : Int) < 97 := by omega
        have h3' : ¬ 122 < ((s[0].toNat : Nat) : Int) := by omega
        have hN2 : Hid (nameB s = allNameBytes s) := by have := hN.out; simp only [decide_eq_true h2, decide_eq_true h3, Bool.true_and] at this; exact this
        clear hN
        go_enter Try.func56, Try.ntmps56
        go_wp2_with (go_at_call 84; refine (r1In_any _ _ _ _).mono ?_; rintro e w' ⟨rfl, rfl⟩)
        clear h2 h3 h2' h3' hin
        go_loop [3] (fun i => ∃ k : Nat, i = .int .i64 k ∧ k ≤ s.size ∧ Hid (∀ j, j < k → nameByte (s.get! j).toNat = true)) (fun i => s.size - (intOf i).toNat)
        case atStart => exact ⟨0, rfl, by omega, fun j hj => by omega⟩
        case round =>
          obtain ⟨k, rfl, hk, hall⟩ := hrel
          by_cases hlt : k < s.size
          · have hgood : (97 ≤ s[k].toNat ∧ s[k].toNat ≤ 122) ∨ (48 ≤ s[k].toNat ∧ s[k].toNat ≤ 57) ∨ s[k].toNat = 45 → Hid (∀ j, j < k + 1 → nameByte (s.get! j).toNat = true) := fun hg j hj => by
              rcases Nat.lt_or_ge j k with h | h
              · exact hall.out j h
              · obtain rfl : j = k := by omega
                rw [get_get s j hlt]; simp [nameByte]; omega
            have hbad : ¬ ((97 ≤ s[k].toNat ∧ s[k].toNat ≤ 122) ∨ (48 ≤ s[k].toNat ∧ s[k].toNat ≤ 57) ∨ s[k].toNat = 45) → nameB s = false := fun hg => by
              rw [hN2.out]; exact allName_false hlt (by rw [get_get s k hlt]; simp [nameByte]; omega)
            have hgood := Lib.hid hgood
            have hbad := Lib.hid hbad
            by_cases h45 : s[k].toNat = 45
            · have h1 : 45 ≤ s[k].toNat := by omega
              have h2 : s[k].toNat ≤ 45 := by omega
              have h3 : (((s[k].toNat : Nat) : Int) != 45) = false := by rw [h45]; rfl
              clear h45
              go_wp2
              all_goals first | (exfalso; omega) | skip
              all_goals
                go_round
                case rel => exact ⟨k + 1, by go_num, by omega, hgood.out (by omega)⟩
                case measure => simp [intOf]; omega
            · have h3 : (((s[k].toNat : Nat) : Int) != 45) = true := by rw [bne_iff_ne]; omega
              have h1 : s[k].toNat < 45 ∨ 45 < s[k].toNat := by omega
              clear h45
              go_wp2
              all_goals first
                | (go_ret; exact ⟨by rw [hbad.out (by omega)]; rfl, rfl⟩)
                | (go_round; (case rel => exact ⟨k + 1, by go_num, by omega, hgood.out (by omega)⟩); (case measure => simp [intOf]; omega))
          · obtain rfl : k = s.size := by omega
            have hA : Hid (allNameBytes s = true) := allName_true hall.out
            go_wp2
            go_ret
            exact ⟨by rw [hN2.out, hA.out]; rfl, rfl⟩
      · have h3' : 122 < ((s[0].toNat : Nat) : Int) := by omega
        have h2' : ¬ ((s[0].toNat : Nat) : Int) < 97 := by omega
        go_enter Try.func56, Try.ntmps56
        go_wp2_with (go_at_call 84; refine (r1In_any _ _ _ _).mono ?_; rintro e w' ⟨rfl, rfl⟩)
        go_ret
        exact ⟨by rw [hN.out]; simp [h3], rfl⟩
    · have h2' : ((s[0].toNat : Nat) : Int) < 97 := by omega
      go_enter Try.func56, Try.ntmps56
      go_wp2_with (go_at_call 84; refine (r1In_any _ _ _ _).mono ?_; rintro e w' ⟨rfl, rfl⟩)
      go_ret
      exact ⟨by rw [hN.out]; simp [h2], rfl⟩
  · have hin : inB (s.size : Int) 1 16 = false := by simp [inB]; omega
    have hN : Hid (nameB s = false) := by unfold Hid nameB; simp; omega
    go_enter Try.func56, Try.ntmps56
    go_wp2_with (go_at_call 84; refine (r1In_any _ _ _ _).mono ?_; rintro e w' ⟨rfl, rfl⟩)
    go_ret
    exact ⟨by rw [hN.out]; rfl, rfl⟩
end Go.Proofs.Ytpgkhlpepckfgaa
