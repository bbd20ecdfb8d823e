/-
  Walks of the small tests: names, numbers between two others, spans, crops. What the straw layer's checks answer, over plain data. Lists of whole numbers: slices.Compare, cmp.Or, SameInts, walked. The cheapest choice: what the program's walk over all choices comes to, over plain data. A store as the walks read it: heaps, parts, what each field gave; and whether one may be, in plain numbers. The cheapest choice as the specification has it, and why both are one. Plain lists and numbers. Both ways of looking at all choices find one and the same. Plain lists and numbers.
-/
import Derived.Test.YtpgkhlpepckfgaaXa01
import Derived.Test.YtpgkhlpepckfgaaXa02
import Derived.Test.YtpgkhlpepckfgaaXa03
import Derived.Deep.LoopGhost
import Derived.Lib.Hide
import Derived.Outline
import Derived.WalkKit
import Derived.WalkLawsBesides
import Derived.WalkSpells
set_option linter.all false
set_option linter.unusedVariables false
set_option linter.unusedSimpArgs false
section
namespace Go.Proofs.Ytpgkhlpepckfgaa
open Go.RowKit Go.Lib

/-- n lies between two numbers. -/
def inB (n lo hi : Int) : Bool := decide (lo ≤ n) && decide (n ≤ hi)
def spanB (a b lo hi : Int) : Bool := decide (lo ≤ a) && decide (a ≤ b) && decide (b ≤ hi)
def cropB (c : Int) : Bool := decide (1 ≤ c) && decide (c ≤ 3)

theorem in_any (a b c : Int) (w : World) :
    Calls Try.prog 43 #[.int .i64 a, .int .i64 b, .int .i64 c] w fun e w' => e = .returned (.bool (inB a b c)) ∧ w = w' := by
  by_cases h1 : b ≤ a
  all_goals
    go_enter Try.func43, Try.ntmps43
    go_wp2
    go_ret
    simp [inB, h1]
    try omega
theorem rin_any (a b c : Int) (w : World) :
    Calls Try.prog 49 #[.int .i64 a, .int .i64 b, .int .i64 c] w fun e w' => e = .returned (.bool (inB a b c)) ∧ w = w' := by
  by_cases h1 : b ≤ a
  all_goals
    go_enter Try.func49, Try.ntmps49
    go_wp2
    go_ret
    simp [inB, h1]
    try omega
theorem r1In_any (a b c : Int) (w : World) :
    Calls Try.prog 84 #[.int .i64 a, .int .i64 b, .int .i64 c] w fun e w' => e = .returned (.bool (inB a b c)) ∧ w = w' := by
  by_cases h1 : b ≤ a
  all_goals
    go_enter Try.func84, Try.ntmps84
    go_wp2
    go_ret
    simp [inB, h1]
    try omega
theorem grows_any (a : Int) (w : World) :
    Calls Try.prog 54 #[.int .i64 a] w fun e w' => e = .returned (.bool (cropB a)) ∧ w = w' := by
  by_cases h1 : 1 ≤ a
  all_goals
    go_enter Try.func54, Try.ntmps54
    go_wp2
    go_ret
    simp [cropB, h1]
    try omega
theorem rcrop_any (a : Int) (w : World) :
    Calls Try.prog 57 #[.int .i64 a] w fun e w' => e = .returned (.bool (cropB a)) ∧ w = w' := by
  by_cases h1 : 1 ≤ a
  all_goals
    go_enter Try.func57, Try.ntmps57
    go_wp2
    go_ret
    simp [cropB, h1]
    try omega
theorem spans_any (a b lo hi : Int) (w : World) :
    Calls Try.prog 55 #[.agg #[.int .i64 a, .int .i64 b], .int .i64 lo, .int .i64 hi] w fun e w' => e = .returned (.bool (spanB a b lo hi)) ∧ Below w.heap.size w w' := by
  by_cases h1 : lo ≤ a <;> by_cases h2 : a ≤ b
  all_goals
    go_enter Try.func55, Try.ntmps55
    go_wp2
    go_ret
    exact ⟨by simp [spanB, h1, h2]; try omega, (Below.refl _ _).alloc (Nat.le_refl _) _⟩
theorem rspan_any (a b lo hi : Int) (w : World) :
    Calls Try.prog 58 #[.agg #[.int .i64 a, .int .i64 b], .int .i64 lo, .int .i64 hi] w fun e w' => e = .returned (.bool (spanB a b lo hi)) ∧ Below w.heap.size w w' := by
  by_cases h1 : lo ≤ a <;> by_cases h2 : a ≤ b
  all_goals
    go_enter Try.func58, Try.ntmps58
    go_wp2
    go_ret
    exact ⟨by simp [spanB, h1, h2]; try omega, (Below.refl _ _).alloc (Nat.le_refl _) _⟩

theorem beq45 (r : Nat) : ((r : Int) == 45) = decide (r = 45) := by rw [Bool.eq_iff_iff]; simp; omega
/-- What strings.ContainsFunc is handed by isName. -/
theorem bad_pred (w : World) : PredAt Try.prog 83 #[] encR badRune w := fun W r _ => by
  unfold FnGives
  have hN : Hid (badRune r = !((decide (97 ≤ r) && decide (r ≤ 122)) || (decide (48 ≤ r) && decide (r ≤ 57)) || decide (r = 45))) := rfl
  have z1 : (97 : Int) ≤ (r : Int) ↔ 97 ≤ r := by omega
  have z2 : (r : Int) ≤ 122 ↔ r ≤ 122 := by omega
  have z3 : (48 : Int) ≤ (r : Int) ↔ 48 ≤ r := by omega
  have z4 : (r : Int) ≤ 57 ↔ r ≤ 57 := by omega
  by_cases h1 : 97 ≤ r <;> by_cases h2 : r ≤ 122 <;> by_cases h3 : 48 ≤ r <;> by_cases h4 : r ≤ 57
  all_goals first | (exfalso; omega) | skip
  all_goals
    go_enter Try.func83, Try.ntmps83
    go_wp2
    all_goals first | (exfalso; omega) | (go_ret; exact ⟨by rw [hN.out]; simp [h1, h2, h3, h4]; try exact beq45 r, 0, rfl⟩)


theorem empty_iff (s : ByteArray) : s.toList.isEmpty = decide (s.size = 0) := by
  rw [Lib.toList_data]
  have hl : s.data.toList.length = s.size := by simp
  cases h : s.data.toList with
  | nil => rw [h] at hl; have h2 : s.size = 0 := hl.symm; rw [decide_eq_true h2]; rfl
  | cons x l => rw [h] at hl; simp only [List.length_cons] at hl; have h2 : ¬ s.size = 0 := by omega
                rw [decide_eq_false h2]; rfl
theorem get_get (s : ByteArray) (i : Nat) (h : i < s.size) : s.get! i = s[i] := by
  show s.data[i]! = s.data[i]
  exact getElem!_pos s.data i h

/-- straw.isName. -/
theorem isName_any (s : ByteArray) (w : World) (hs : s.size ≤ 9223372036854775807) :
    Calls Try.prog 53 #[.string s] w fun e w' => e = .returned (.bool (nameB s)) ∧ Below w.heap.size w w' := by
  have hC := fun W => Any.strings_ContainsFunc Try.laysGw17 83 #[] (enters_of Try.func83 (by kernel_rfl) rfl) badRune s W (bad_pred W)
  change ∀ W, Calls Try.prog 82 _ _ _ at hC
  have HC := Lib.hid hC
  clear hC
  by_cases h0 : s.size = 0
  · have hN : Hid (nameB s = false) := by simp [nameB, h0, Hid]
    have hn : s.toList = [] := by have := empty_iff s; rw [h0] at this; simpa using this
    go_enter Try.func53, Try.ntmps53
    go_wp2
    go_ret
    exact ⟨by rw [hN.out]; rfl, Below.refl _ _⟩
  · have hp : 0 < s.size := by omega
    have he : s.toList.isEmpty = false := by rw [empty_iff]; simp [h0]
    have he2 : ¬ s.toList = [] := by intro e; rw [e] at he; cases he
    by_cases h1 : 16 < s.size
    · have hN : Hid (nameB s = false) := by unfold Hid nameB; simp; omega
      have h1' : 16 < (s.size : Int) := by omega
      go_enter Try.func53, Try.ntmps53
      go_wp2
      go_ret
      exact ⟨by rw [hN.out]; rfl, Below.refl _ _⟩
    · have h1' : ¬ 16 < (s.size : Int) := by omega
      have hN : Hid (nameB s = (decide (97 ≤ s[0].toNat) && decide (s[0].toNat ≤ 122) && allNameBytes s)) := by
        unfold Hid nameB
        rw [get_get s 0 hp]
        have : 1 ≤ s.size ∧ s.size ≤ 16 := by omega
        simp [this]
      have hI := Lib.hid (idx_bad s)
      by_cases h2 : 97 ≤ s[0].toNat
      · by_cases h3 : s[0].toNat ≤ 122
        · have h2' : ¬ ((s[0].toNat : Nat) : Int) < 97 := by omega
          have h3' : ¬ 122 < ((s[0].toNat : Nat) : Int) := by omega
          go_enter Try.func53, Try.ntmps53
          go_wp2_with (go_at_call 82; refine (HC.out _).mono ?_; rintro e w' ⟨rfl, hb⟩)
          all_goals first | (exfalso; omega) | skip
          go_ret
          exact ⟨by rw [hN.out, hI.out]; simp [h2, h3], hb⟩
        · have h2' : ¬ ((s[0].toNat : Nat) : Int) < 97 := by omega
          have h3' : 122 < ((s[0].toNat : Nat) : Int) := by omega
          go_enter Try.func53, Try.ntmps53
          go_wp2_with fail
          go_ret
          exact ⟨by rw [hN.out]; simp [h3], Below.refl _ _⟩
      · have h2' : ((s[0].toNat : Nat) : Int) < 97 := by omega
        go_enter Try.func53, Try.ntmps53
        go_wp2_with fail
        go_ret
        exact ⟨by rw [hN.out]; simp [h2], Below.refl _ _⟩

theorem ncast_beq (a b : Nat) : ((a : Int) == (b : Int)) = decide (a = b) := by rw [Bool.eq_iff_iff]; simp; omega

theorem allName_true {s : ByteArray} (h : ∀ i, i < s.size → nameByte (s.get! i).toNat = true) : allNameBytes s = true := by unfold allNameBytes; exact decide_eq_true h
theorem allName_false {s : ByteArray} {i : Nat} (hi : i < s.size) (h : nameByte (s.get! i).toNat = false) : allNameBytes s = false := by
  unfold allNameBytes; exact decide_eq_false (fun hx => by rw [hx i hi] at h; cases h)
theorem nameByte_tests (b : Nat) : nameByte b = !((decide ((b : Int) < 97) || decide (122 < (b : Int))) && ((decide ((b : Int) < 48) || decide (57 < (b : Int)))) && !decide (b = 45)) := by
  rw [Bool.eq_iff_iff]; simp [nameByte]; omega

/-- thatchref01.Name. -/
theorem rName_any (s : ByteArray) (w : World) (hs : s.size ≤ 9223372036854775807) :
    Calls Try.prog 56 #[.string s] w fun e w' => e = .returned (.bool (nameB s)) ∧ w = w' := by
  by_cases hlen : 1 ≤ s.size ∧ s.size ≤ 16
  · obtain ⟨hp, hle⟩ := hlen
    have hin : inB (s.size : Int) 1 16 = true := by simp [inB]; omega
    have hN : Hid (nameB s = (decide (97 ≤ s[0].toNat) && decide (s[0].toNat ≤ 122) && allNameBytes s)) := by
      unfold Hid nameB
      rw [get_get s 0 hp]
      have : 1 ≤ s.size ∧ s.size ≤ 16 := by omega
      simp [this]
    by_cases h2 : 97 ≤ s[0].toNat
    · by_cases h3 : s[0].toNat ≤ 122
      · have h2' : ¬ ((s[0].toNat : Nat) : Int) < 97 := by omega
        have h3' : ¬ 122 < ((s[0].toNat : Nat) : Int) := by omega
        have hN2 : Hid (nameB s = allNameBytes s) := by have := hN.out; simp only [decide_eq_true h2, decide_eq_true h3, Bool.true_and] at this; exact this
        clear hN
        go_enter Try.func56, Try.ntmps56
        go_wp2_with (go_at_call 84; refine (r1In_any _ _ _ _).mono ?_; rintro e w' ⟨rfl, rfl⟩)
        clear h2 h3 h2' h3' hin
        go_loop [3] (fun i => ∃ k : Nat, i = .int .i64 k ∧ k ≤ s.size ∧ Hid (∀ j, j < k → nameByte (s.get! j).toNat = true)) (fun i => s.size - (intOf i).toNat)
        case atStart => exact ⟨0, rfl, by omega, fun j hj => by omega⟩
        case round =>
          obtain ⟨k, rfl, hk, hall⟩ := hrel
          by_cases hlt : k < s.size
          · have hgood : (97 ≤ s[k].toNat ∧ s[k].toNat ≤ 122) ∨ (48 ≤ s[k].toNat ∧ s[k].toNat ≤ 57) ∨ s[k].toNat = 45 → Hid (∀ j, j < k + 1 → nameByte (s.get! j).toNat = true) := fun hg j hj => by
              rcases Nat.lt_or_ge j k with h | h
              · exact hall.out j h
              · obtain rfl : j = k := by omega
                rw [get_get s j hlt]; simp [nameByte]; omega
            have hbad : ¬ ((97 ≤ s[k].toNat ∧ s[k].toNat ≤ 122) ∨ (48 ≤ s[k].toNat ∧ s[k].toNat ≤ 57) ∨ s[k].toNat = 45) → nameB s = false := fun hg => by
              rw [hN2.out]; exact allName_false hlt (by rw [get_get s k hlt]; simp [nameByte]; omega)
            have hgood := Lib.hid hgood
            have hbad := Lib.hid hbad
            by_cases h45 : s[k].toNat = 45
            · have h1 : 45 ≤ s[k].toNat := by omega
              have h2 : s[k].toNat ≤ 45 := by omega
              have h3 : (((s[k].toNat : Nat) : Int) != 45) = false := by rw [h45]; rfl
              clear h45
              go_wp2
              all_goals first | (exfalso; omega) | skip
              all_goals
                go_round
                case rel => exact ⟨k + 1, by go_num, by omega, hgood.out (by omega)⟩
                case measure => simp [intOf]; omega
            · have h3 : (((s[k].toNat : Nat) : Int) != 45) = true := by rw [bne_iff_ne]; omega
              have h1 : s[k].toNat < 45 ∨ 45 < s[k].toNat := by omega
              clear h45
              go_wp2
              all_goals first
                | (go_ret; exact ⟨by rw [hbad.out (by omega)]; rfl, rfl⟩)
                | (go_round; (case rel => exact ⟨k + 1, by go_num, by omega, hgood.out (by omega)⟩); (case measure => simp [intOf]; omega))
          · obtain rfl : k = s.size := by omega
            have hA : Hid (allNameBytes s = true) := allName_true hall.out
            go_wp2
            go_ret
            exact ⟨by rw [hN2.out, hA.out]; rfl, rfl⟩
      · have h3' : 122 < ((s[0].toNat : Nat) : Int) := by omega
        have h2' : ¬ ((s[0].toNat : Nat) : Int) < 97 := by omega
        go_enter Try.func56, Try.ntmps56
        go_wp2_with (go_at_call 84; refine (r1In_any _ _ _ _).mono ?_; rintro e w' ⟨rfl, rfl⟩)
        go_ret
        exact ⟨by rw [hN.out]; simp [h3], rfl⟩
    · have h2' : ((s[0].toNat : Nat) : Int) < 97 := by omega
      go_enter Try.func56, Try.ntmps56
      go_wp2_with (go_at_call 84; refine (r1In_any _ _ _ _).mono ?_; rintro e w' ⟨rfl, rfl⟩)
      go_ret
      exact ⟨by rw [hN.out]; simp [h2], rfl⟩
  · have hin : inB (s.size : Int) 1 16 = false := by simp [inB]; omega
    have hN : Hid (nameB s = false) := by unfold Hid nameB; simp; omega
    go_enter Try.func56, Try.ntmps56
    go_wp2_with (go_at_call 84; refine (r1In_any _ _ _ _).mono ?_; rintro e w' ⟨rfl, rfl⟩)
    go_ret
    exact ⟨by rw [hN.out]; rfl, rfl⟩
end Go.Proofs.Ytpgkhlpepckfgaa
end
section
namespace Go.Proofs.Ytpgkhlpepckfgaa
open Go.RowKit

def plotOk (p : Plot) : Bool :=
  cropB p.crop && inB p.size 1 100 && spanB p.yield.lo p.yield.hi 0 1000 && inB p.rest 1 100 && spanB p.wet.lo p.wet.hi 0 1000 && inB p.cost 0 1000000
def hasName (l : List Plot) (k : Nat) (s : ByteArray) : Bool := (l.take k).any fun q => decide (q.name = s)
def plotErr (l : List Plot) (i : Nat) : Int :=
  if nameB (l.getD i default).name = false then 5 else if hasName l i (l.getD i default).name = true then 6 else if plotOk (l.getD i default) = false then 1 else 0
/-- The error of a farm. -/
def checkI (l : List Plot) (dry : Int) : Int :=
  if 12 < l.length then 3 else if firstErr (plotErr l) l.length = 0 then (if inB dry 0 1000 = true then 0 else 1) else firstErr (plotErr l) l.length

theorem checkI_long {l : List Plot} {dry : Int} (h : 12 < l.length) : checkI l dry = 3 := if_pos h
theorem checkI_stop {l : List Plot} {dry : Int} {k : Nat} (h : ¬ 12 < l.length) (hk : k < l.length) (h0 : ∀ j, j < k → plotErr l j = 0) (h1 : plotErr l k ≠ 0) : checkI l dry = plotErr l k := by
  rw [checkI, if_neg h, firstErr_stop h0 h1 hk, if_neg h1]
theorem checkI_end {l : List Plot} {dry : Int} (h : ¬ 12 < l.length) (h0 : ∀ j, j < l.length → plotErr l j = 0) : checkI l dry = if inB dry 0 1000 = true then 0 else 1 := by
  rw [checkI, if_neg h, firstErr_none h0, if_pos rfl]
theorem getD_lt {α : Type} {l : List α} {i : Nat} (d : α) (h : i < l.length) : l.getD i d = l[i] := by simp [List.getD_eq_getElem?_getD, h]
theorem hasName_succ (l : List Plot) (k : Nat) (h : k < l.length) (s : ByteArray) : hasName l (k + 1) s = (hasName l k s || decide (l[k].name = s)) := by
  unfold hasName
  rw [List.take_succ_eq_append_getElem h, List.any_append]
  simp

/-- The map of names that were met. -/
def knownM (l : List Plot) (k : Nat) : Value → Option Value
  | .string s => if hasName l k s = true then some (.bool true) else none
  | _ => none
theorem knownM_get (l : List Plot) (k : Nat) (s : ByteArray) : (knownM l k (.string s)).getD (.bool false) = .bool (hasName l k s) := by
  show (if hasName l k s = true then some (Value.bool true) else none).getD (Value.bool false) = _
  cases h : hasName l k s <;> rfl
theorem knownM_zero (l : List Plot) : knownM l 0 = fun _ => none := by
  funext v; cases v <;> simp [knownM, hasName]
theorem knownM_put (l : List Plot) (k : Nat) (h : k < l.length) : knownM l (k + 1) (.string l[k].name) = some (.bool true) := by
  show (if hasName l (k + 1) l[k].name = true then some (Value.bool true) else none) = _
  rw [hasName_succ l k h]; simp
theorem knownM_other (l : List Plot) (k : Nat) (h : k < l.length) (x : Value) (hx : x ≠ .string l[k].name) : knownM l (k + 1) x = knownM l k x := by
  cases x with
  | string s =>
    show (if hasName l (k + 1) s = true then some (Value.bool true) else none) = (if hasName l k s = true then some (Value.bool true) else none)
    rw [hasName_succ l k h]; have : ¬ l[k].name = s := fun e => hx (by rw [e]); simp [this]
  | _ => rfl

/-- Plots lie there, their names no longer than a string may be. -/
def RdPlots (w : World) (A : Option Addr) (l : List Plot) : Prop := FlatRow encPlot 9 w A l ∧ ∀ p ∈ l, p.name.size ≤ 140737488351232
theorem RdPlots.below {w w1 : World} {A : Option Addr} {l : List Plot} (h : RdPlots w A l) (hb : Below w.heap.size w w1) : RdPlots w1 A l := ⟨h.1.below hb, h.2⟩
theorem RdPlots.name {w : World} {A : Option Addr} {l : List Plot} (h : RdPlots w A l) {i : Nat} (hi : i < l.length) : l[i].name.size ≤ 140737488351232 := h.2 _ (List.getElem_mem hi)

theorem plotErr_name {l : List Plot} {k : Nat} (hk : k < l.length) (h : nameB l[k].name = false) : plotErr l k = 5 := by
  rw [plotErr, getD_lt _ hk, if_pos h]
theorem plotErr_twice {l : List Plot} {k : Nat} (hk : k < l.length) (h : nameB l[k].name = true) (h1 : hasName l k l[k].name = true) : plotErr l k = 6 := by
  rw [plotErr, getD_lt _ hk, if_neg (by rw [h]; decide), if_pos h1]
theorem plotErr_arg {l : List Plot} {k : Nat} (hk : k < l.length) (h : nameB l[k].name = true) (h1 : hasName l k l[k].name = false) (h2 : plotOk l[k] = false) : plotErr l k = 1 := by
  rw [plotErr, getD_lt _ hk, if_neg (by rw [h]; decide), if_neg (by rw [h1]; decide), if_pos h2]
theorem plotErr_ok {l : List Plot} {k : Nat} (hk : k < l.length) (h : nameB l[k].name = true) (h1 : hasName l k l[k].name = false) (h2 : plotOk l[k] = true) : plotErr l k = 0 := by
  rw [plotErr, getD_lt _ hk, if_neg (by rw [h]; decide), if_neg (by rw [h1]; decide), if_neg (by rw [h2]; decide)]
theorem bytes_beq (a b : ByteArray) : (a.toList == b.toList) = decide (a = b) := by
  rw [Lib.toList_data, Lib.toList_data, Bool.eq_iff_iff]
  simp only [beq_iff_eq, decide_eq_true_eq]
  constructor
  · intro h
    cases a; cases b
    simp at h
    rw [h]
  · intro h; rw [h]
theorem below_succ {f : Nat → Int} {k : Nat} (h : ∀ j, j < k → f j = 0) (hk : f k = 0) : ∀ j, j < k + 1 → f j = 0 := fun j hj => by
  rcases Nat.lt_or_ge j k with h1 | h1
  · exact h j h1
  · obtain rfl : j = k := by omega
    exact hk
theorem bcell {W w1 : World} (hb : Below W.heap.size W w1) : (∀ b o, b < W.heap.size → w1.cell? ⟨b, o, none⟩ = W.cell? ⟨b, o, none⟩) ∧ (∀ b o, b < W.heap.size → w1.frozen? ⟨b, o, none⟩ = W.frozen? ⟨b, o, none⟩) :=
  ⟨fun b o h => hb.cell (p := ⟨b, o, none⟩) h, fun b o h => hb.frozen (p := ⟨b, o, none⟩) h⟩
theorem checkI_zero {l : List Plot} {dry : Int} (h : checkI l dry = 0) : l.length ≤ 12 ∧ (∀ j, j < l.length → plotErr l j = 0) ∧ inB dry 0 1000 = true := by
  unfold checkI at h
  by_cases hl : 12 < l.length
  · rw [if_pos hl] at h; cases h
  · rw [if_neg hl] at h
    by_cases h0 : firstErr (plotErr l) l.length = 0
    · rw [if_pos h0] at h
      refine ⟨by omega, firstErr_zero h0, ?_⟩
      by_cases hd : inB dry 0 1000 = true
      · exact hd
      · rw [if_neg hd] at h; cases h
    · rw [if_neg h0] at h; exact absurd h h0
theorem plotErr_zero {l : List Plot} {k : Nat} (hk : k < l.length) (h : plotErr l k = 0) : nameB l[k].name = true ∧ hasName l k l[k].name = false ∧ plotOk l[k] = true := by
  rw [plotErr, getD_lt _ hk] at h
  by_cases h1 : nameB l[k].name = false
  · rw [if_pos h1] at h; cases h
  · rw [if_neg h1] at h
    by_cases h2 : hasName l k l[k].name = true
    · rw [if_pos h2] at h; cases h
    · rw [if_neg h2] at h
      by_cases h3 : plotOk l[k] = false
      · rw [if_pos h3] at h; cases h
      · exact ⟨by simpa using h1, by simpa using h2, by simpa using h3⟩
theorem checkI_ok {l : List Plot} {dry : Int} (h : checkI l dry = 0) : ∀ p ∈ l, plotOk p = true := fun p hp => by
  obtain ⟨i, hi, rfl⟩ := List.getElem_of_mem hp
  exact (plotErr_zero hi ((checkI_zero h).2.1 i hi)).2.2
/-- A field's own variable. -/
abbrev pblock (p : Plot) : Obj := .cells #[.string p.name, .int .i64 p.crop, .int .i64 p.size, .int .i64 p.yield.lo, .int .i64 p.yield.hi, .int .i64 p.rest, .int .i64 p.wet.lo, .int .i64 p.wet.hi, .int .i64 p.cost] 88
end Go.Proofs.Ytpgkhlpepckfgaa
end
section
namespace Go.Proofs.Ytpgkhlpepckfgaa
open Go.RowKit Go.Lib

def encI (x : Int) : List Value := [.int .i64 x]
abbrev RdInts (w : World) (A : Option Addr) (l : List Int) : Prop := FlatRow encI 1 w A l

/-- The order of lists. -/
def cmpL : List Int → List Int → Int
  | [], [] => 0
  | [], _ :: _ => -1
  | _ :: _, [] => 1
  | x :: xs, y :: ys => if compareInt x y = 0 then cmpL xs ys else compareInt x y
def orL : List Int → Int
  | [] => 0
  | x :: xs => if x = 0 then orL xs else x

theorem cmpL_step {xs ys : List Int} {k : Nat} (h1 : k < xs.length) (h2 : k < ys.length) : cmpL (xs.drop k) (ys.drop k) = if compareInt xs[k] ys[k] = 0 then cmpL (xs.drop (k + 1)) (ys.drop (k + 1)) else compareInt xs[k] ys[k] := by
  rw [List.drop_eq_getElem_cons h1, List.drop_eq_getElem_cons h2, cmpL]
theorem cmpL_over {xs ys : List Int} {k : Nat} (h1 : k < xs.length) (h2 : ys.length ≤ k) : cmpL (xs.drop k) (ys.drop k) = 1 := by
  rw [List.drop_eq_getElem_cons h1, List.drop_eq_nil_of_le h2, cmpL]
theorem cmpL_end {xs ys : List Int} (h : xs.length ≤ ys.length) : cmpL (xs.drop xs.length) (ys.drop xs.length) = if xs.length < ys.length then -1 else 0 := by
  rw [List.drop_length]
  by_cases hl : xs.length < ys.length
  · rw [List.drop_eq_getElem_cons hl, cmpL, if_pos hl]
  · rw [List.drop_eq_nil_of_le (by omega), cmpL, if_neg hl]
theorem orL_step {xs : List Int} {k : Nat} (h1 : k < xs.length) : orL (xs.drop k) = if xs[k] = 0 then orL (xs.drop (k + 1)) else xs[k] := by
  rw [List.drop_eq_getElem_cons h1, orL]
theorem compareInt_bd (x y : Int) : -1 ≤ compareInt x y ∧ compareInt x y ≤ 1 := by unfold compareInt; split <;> (try split) <;> omega

set_option maxHeartbeats 1000000 in
set_option maxRecDepth 100000 in
theorem cmpS_any (A1 A2 : Option Addr) (c1 c2 : Nat) (xs ys : List Int) (w : World) (h1 : RdInts w A1 xs) (h2 : RdInts w A2 ys) :
    Calls Try.prog 47 #[.slice A1 xs.length c1, .slice A2 ys.length c2] w fun e w' => e = .returned (.int .i64 (cmpL xs ys)) ∧ w' = w := by
  have hl1 := h1.1
  have hl2 := h2.1
  go_enter Try.func47, Try.ntmps47
  go_wp2
  go_loop [11] (fun i => ∃ k : Nat, i = .int .i64 k ∧ k ≤ xs.length ∧ k ≤ ys.length ∧ Hid (cmpL xs ys = cmpL (xs.drop k) (ys.drop k))) (fun i => xs.length - (intOf i).toNat)
  case atStart => exact ⟨0, rfl, by omega, by omega, rfl⟩
  case round =>
    obtain ⟨k, rfl, hk, hk2, hE⟩ := hrel
    by_cases hlt : k < xs.length
    · obtain ⟨ad, hA, g0⟩ := h1.at1 hlt rfl
      subst hA
      by_cases hlt2 : k < ys.length
      · obtain ⟨ad2, hA2, g2⟩ := h2.at1 hlt2 rfl
        subst hA2
        have hS := Lib.hid (cmpL_step hlt hlt2)
        by_cases hc : compareInt xs[k] ys[k] = 0
        · have hc' : (compareInt xs[k] ys[k] != 0) = false := by rw [hc]; rfl
          have hc2 := Lib.hid hc
          clear hc
          go_wp2_with (go_at_call 46; refine (Try.cmp_Compare_int _ _ _).mono ?_; rintro e w' ⟨rfl, rfl⟩)
          go_round
          case rel => exact ⟨k + 1, by go_num, by omega, by omega, by rw [hE.out, hS.out, if_pos hc2.out]; rfl⟩
          case measure => simp [intOf]; omega
        · have hc' : (compareInt xs[k] ys[k] != 0) = true := by rw [bne_iff_ne]; exact hc
          have hc2 := Lib.hid hc
          clear hc
          go_wp2_with (go_at_call 46; refine (Try.cmp_Compare_int _ _ _).mono ?_; rintro e w' ⟨rfl, rfl⟩)
          go_ret
          exact ⟨by rw [hE.out, hS.out, if_neg hc2.out]; rfl, rfl⟩
      · have hS := Lib.hid (cmpL_over hlt (show ys.length ≤ k by omega))
        go_wp2
        go_ret
        exact ⟨by rw [hE.out, hS.out]; rfl, rfl⟩
    · obtain rfl : k = xs.length := by omega
      have hS := Lib.hid (cmpL_end hk2)
      by_cases hl : xs.length < ys.length
      · go_wp2
        go_ret
        exact ⟨by rw [hE.out, hS.out, if_pos hl]; rfl, rfl⟩
      · go_wp2
        go_ret
        exact ⟨by rw [hE.out, hS.out, if_neg hl]; rfl, rfl⟩

set_option maxHeartbeats 1000000 in
theorem or_any (A1 : Option Addr) (c1 : Nat) (xs : List Int) (w : World) (h1 : RdInts w A1 xs) :
    Calls Try.prog 45 #[.slice A1 xs.length c1] w fun e w' => e = .returned (.int .i64 (orL xs)) ∧ w' = w := by
  have hl1 := h1.1
  go_enter Try.func45, Try.ntmps45
  go_wp2
  go_loop [8] (fun i => ∃ k : Nat, i = .int .i64 k ∧ k ≤ xs.length ∧ Hid (orL xs = orL (xs.drop k))) (fun i => xs.length - (intOf i).toNat)
  case atStart => exact ⟨0, rfl, by omega, rfl⟩
  case round =>
    obtain ⟨k, rfl, hk, hE⟩ := hrel
    by_cases hlt : k < xs.length
    · obtain ⟨ad, hA, g0⟩ := h1.at1 hlt rfl
      subst hA
      have hS := Lib.hid (orL_step hlt)
      by_cases hc : xs[k] = 0
      · have hc' : (xs[k] != 0) = false := by rw [hc]; rfl
        have hc2 := Lib.hid hc
        clear hc
        go_wp2
        go_round
        case rel => exact ⟨k + 1, by go_num, by omega, by rw [hE.out, hS.out, if_pos hc2.out]; rfl⟩
        case measure => simp [intOf]; omega
      · have hc' : (xs[k] != 0) = true := by rw [bne_iff_ne]; exact hc
        have hc2 := Lib.hid hc
        clear hc
        go_wp2
        go_ret
        exact ⟨by rw [hE.out, hS.out, if_neg hc2.out]; rfl, rfl⟩
    · obtain rfl : k = xs.length := by omega
      have hS : Hid (orL (xs.drop xs.length) = 0) := by unfold Hid; rw [List.drop_length]; rfl
      go_wp2
      go_ret
      exact ⟨by rw [hE.out, hS.out]; rfl, rfl⟩
end Go.Proofs.Ytpgkhlpepckfgaa
end
section
namespace Go.Proofs.Ytpgkhlpepckfgaa
open Go.RowKit Go.Lib

structure Need where
  reed : Int
  straw : Int
  heather : Int
structure Best where
  found : Bool
  cost : Int
  choice : List Int

def needGet (n : Need) (c : Int) : Int := if c = 1 then n.reed else if c = 2 then n.straw else n.heather
def needSub (n : Need) (c x : Int) : Need := if c = 1 then { n with reed := n.reed - x } else if c = 2 then { n with straw := n.straw - x } else { n with heather := n.heather - x }
def needMax (n : Need) : Int := if (if n.reed < n.straw then n.straw else n.reed) < n.heather then n.heather else if n.reed < n.straw then n.straw else n.reed
def better (paid : Int) (l : List Int) (b : Best) : Int := orL [compareInt paid b.cost, compareInt l.length b.choice.length, cmpL l b.choice]
def leafP (paid : Int) (n : Need) (l : List Int) (b : Best) : Best :=
  if 0 < needMax n then b else if b.found = false then ⟨true, paid, l⟩ else if better paid l b < 0 then ⟨true, paid, l⟩ else b
def walkP : List Plot → Int → Int → Need → List Int → Best → Best
  | [], _, paid, n, l, b => leafP paid n l b
  | p :: ps, i, paid, n, l, b =>
    walkP ps (i + 1) paid n l (walkP ps (i + 1) (paid + p.cost) (needSub n p.crop (p.size * p.yield.lo)) (l ++ [i]) b)

/-- The map of what is wanted yet. -/
def needM (n : Need) : Value → Option Value
  | .int .i64 c => if c = 1 then some (.int .i64 n.reed) else if c = 2 then some (.int .i64 n.straw) else if c = 3 then some (.int .i64 n.heather) else none
  | _ => none
theorem needM_get (n : Need) (c : Int) (h : cropB c = true) : (needM n (.int .i64 c)).getD (.int .i64 0) = .int .i64 (needGet n c) := by
  simp only [cropB, Bool.and_eq_true, decide_eq_true_eq] at h
  show (if c = 1 then some (Value.int .i64 n.reed) else if c = 2 then some (.int .i64 n.straw) else if c = 3 then some (.int .i64 n.heather) else none).getD (.int .i64 0) = _
  unfold needGet
  by_cases h1 : c = 1
  · simp [h1]
  · by_cases h2 : c = 2
    · simp [h2]
    · have h3 : c = 3 := by omega
      simp [h3]
theorem needM_put (n : Need) (c x : Int) (h : cropB c = true) : needM (needSub n c x) (.int .i64 c) = some (.int .i64 (needGet n c - x)) := by
  simp only [cropB, Bool.and_eq_true, decide_eq_true_eq] at h
  unfold needGet needSub
  by_cases h1 : c = 1
  · simp [h1, needM]
  · by_cases h2 : c = 2
    · simp [h2, needM]
    · have h3 : c = 3 := by omega
      simp [h3, needM]
theorem needM_other (n : Need) (c x : Int) (v : Value) (hv : v ≠ .int .i64 c) (h : cropB c = true) : needM (needSub n c x) v = needM n v := by
  simp only [cropB, Bool.and_eq_true, decide_eq_true_eq] at h
  unfold needM
  split
  · rename_i d
    have hd : d ≠ c := fun e => hv (by rw [e])
    unfold needSub
    by_cases h1 : c = 1
    · subst h1; simp [hd]
    · by_cases h2 : c = 2
      · subst h2; simp [hd]
      · have h3 : c = 3 := by omega
        subst h3; simp [hd]
  · rfl
theorem needGet_sub (n : Need) (c x : Int) : needGet (needSub n c x) c = needGet n c - x := by
  unfold needGet needSub
  by_cases h1 : c = 1
  · simp [h1]
  · by_cases h2 : c = 2
    · simp [h2]
    · simp [h1, h2]
theorem needSub_back (n : Need) (c x : Int) : needSub (needSub n c x) c (-x) = n := by
  unfold needSub
  by_cases h1 : c = 1
  · simp [h1]
  · by_cases h2 : c = 2
    · simp [h2]
    · simp [h1, h2]

def needM1 (n : Need) : Value → Option Value
  | .int .i64 c => if c = 1 then some (.int .i64 n.reed) else none
  | _ => none
def needM2 (n : Need) : Value → Option Value
  | .int .i64 c => if c = 1 then some (.int .i64 n.reed) else if c = 2 then some (.int .i64 n.straw) else none
  | _ => none
theorem needM1_other (n : Need) (v : Value) (hv : v ≠ .int .i64 1) : needM1 n v = none := by
  unfold needM1
  split
  · rename_i c
    exact if_neg (fun e => hv (by rw [e]))
  · rfl
theorem needM2_other (n : Need) (v : Value) (hv : v ≠ .int .i64 2) : needM2 n v = needM1 n v := by
  unfold needM2 needM1
  split
  · rename_i c
    have : ¬ c = 2 := fun e => hv (by rw [e])
    simp [this]
  · rfl
theorem needM3_other (n : Need) (v : Value) (hv : v ≠ .int .i64 3) : needM n v = needM2 n v := by
  unfold needM2 needM
  split
  · rename_i c
    have : ¬ c = 3 := fun e => hv (by rw [e])
    simp [this]
  · rfl

/-- Bounds on what is wanted. -/
def NeedIn (n : Need) (m : Int) : Prop := -m ≤ n.reed ∧ n.reed ≤ m ∧ -m ≤ n.straw ∧ n.straw ≤ m ∧ -m ≤ n.heather ∧ n.heather ≤ m
theorem NeedIn.get {n : Need} {m : Int} (h : NeedIn n m) (c : Int) : -m ≤ needGet n c ∧ needGet n c ≤ m := by
  obtain ⟨h1, h2, h3, h4, h5, h6⟩ := h
  unfold needGet; split <;> (try split) <;> omega
theorem NeedIn.sub {n : Need} {m : Int} (h : NeedIn n m) (c x : Int) (h0 : 0 ≤ x) : NeedIn (needSub n c x) (m + x) := by
  obtain ⟨h1, h2, h3, h4, h5, h6⟩ := h
  unfold needSub NeedIn; split <;> (try split) <;> simp only [] <;> omega

theorem NeedIn.mono {n : Need} {m m' : Int} (h : NeedIn n m) (hm : m ≤ m') : NeedIn n m' := by
  obtain ⟨h1, h2, h3, h4, h5, h6⟩ := h
  exact ⟨by omega, by omega, by omega, by omega, by omega, by omega⟩
theorem leafP_len {paid : Int} {n : Need} {l : List Int} {b : Best} {m : Nat} (h1 : l.length ≤ m) (h2 : b.choice.length ≤ m) : (leafP paid n l b).choice.length ≤ m := by
  unfold leafP
  split
  · exact h2
  · split
    · exact h1
    · split
      · exact h1
      · exact h2
theorem walkP_len {m : Nat} : ∀ (ps : List Plot) (i paid : Int) (n : Need) (l : List Int) (b : Best), l.length + ps.length ≤ m → b.choice.length ≤ m → (walkP ps i paid n l b).choice.length ≤ m
  | [], _, _, _, _, _, h1, h2 => leafP_len (by simpa using h1) h2
  | p :: ps, i, paid, n, l, b, h1, h2 => by
    rw [walkP]
    simp only [List.length_cons] at h1
    exact walkP_len ps _ _ _ _ _ (by omega) (walkP_len ps _ _ _ _ _ (by simp; omega) h2)
theorem plotOk_bounds {p : Plot} (h : plotOk p = true) : cropB p.crop = true ∧ 1 ≤ p.size ∧ p.size ≤ 100 ∧ 0 ≤ p.yield.lo ∧ p.yield.lo ≤ p.yield.hi ∧ p.yield.hi ≤ 1000 ∧ 1 ≤ p.rest ∧ p.rest ≤ 100 ∧ 0 ≤ p.wet.lo ∧ p.wet.lo ≤ p.wet.hi ∧ p.wet.hi ≤ 1000 ∧ 0 ≤ p.cost ∧ p.cost ≤ 1000000 := by
  simp only [plotOk, inB, spanB, Bool.and_eq_true, decide_eq_true_eq] at h
  obtain ⟨⟨⟨⟨⟨t1, t2, t3⟩, ⟨t4, t5⟩, t6⟩, t7, t8⟩, ⟨t9, t10⟩, t11⟩, t12, t13⟩ := h
  exact ⟨t1, t2, t3, t4, t5, t6, t7, t8, t9, t10, t11, t12, t13⟩
theorem prod_bounds {a b : Int} (h1 : 1 ≤ a) (h2 : a ≤ 100) (h3 : 0 ≤ b) (h4 : b ≤ 1000) : 0 ≤ a * b ∧ a * b ≤ 100000 :=
  ⟨Int.mul_nonneg (by omega) h3, Int.le_trans (Int.mul_le_mul h2 h4 h3 (by omega)) (by omega)⟩
end Go.Proofs.Ytpgkhlpepckfgaa
end
section
namespace Go.Proofs.Ytpgkhlpepckfgaa
open Go.RowKit Go.Lib

structure Portion where
  plot : Int
  loads : Int
deriving DecidableEq
def encPortion (p : Portion) : List Value := [.int .i64 p.plot, .int .i64 p.loads]
def RdParts (w : World) (A : Option Addr) (l : List Portion) : Prop := FlatRow encPortion 2 w A l
theorem RdParts.below {w w1 : World} {A : Option Addr} {l : List Portion} (h : RdParts w A l) (hb : Below w.heap.size w w1) : RdParts w1 A l := FlatRow.below h hb

/-- A heap; pa, pc: where its parts lie. -/
structure Heap where
  name : ByteArray
  crop : Int
  stage : Int
  parts : List Portion
  per : Int
  wet : Span
  pa : Option Addr
  pc : Nat
def encHeap (h : Heap) : List Value := [.string h.name, .int .i64 h.crop, .int .i64 h.stage, .slice h.pa h.parts.length h.pc, .int .i64 h.per, .int .i64 h.wet.lo, .int .i64 h.wet.hi]
def RdHeaps (w : World) (A : Option Addr) (l : List Heap) : Prop := FlatRow encHeap 7 w A l ∧ ∀ h ∈ l, RdParts w h.pa h.parts ∧ h.name.size ≤ 140737488351232
theorem RdHeaps.below {w w1 : World} {A : Option Addr} {l : List Heap} (h : RdHeaps w A l) (hb : Below w.heap.size w w1) : RdHeaps w1 A l := ⟨h.1.below hb, fun x hx => ⟨(h.2 x hx).1.below hb, (h.2 x hx).2⟩⟩

/-- A store; the rest: where its lists lie. -/
structure Store where
  year : Int
  last : List Int
  given : List Int
  heaps : List Heap
  used : List Portion
  waste : List Portion
  la : Option Addr
  lc : Nat
  ga : Option Addr
  gc : Nat
  ha : Option Addr
  hc : Nat
  ua : Option Addr
  uc : Nat
  wa : Option Addr
  wc : Nat
abbrev storeCells (s : Store) : Array Value := #[.int .i64 s.year, .slice s.la s.last.length s.lc, .slice s.ga s.given.length s.gc, .slice s.ha s.heaps.length s.hc, .slice s.ua s.used.length s.uc, .slice s.wa s.waste.length s.wc]
abbrev storeVal (s : Store) : Value := .agg (storeCells s)
structure RdStore (w : World) (s : Store) : Prop where
  last : RdInts w s.la s.last
  given : RdInts w s.ga s.given
  heaps : RdHeaps w s.ha s.heaps
  used : RdParts w s.ua s.used
  waste : RdParts w s.wa s.waste
theorem RdStore.below {w w1 : World} {s : Store} (h : RdStore w s) (hb : Below w.heap.size w w1) : RdStore w1 s := ⟨h.last.below hb, h.given.below hb, h.heaps.below hb, h.used.below hb, h.waste.below hb⟩

theorem FlatRow.at7 {α : Type} {enc : α → List Value} {w : World} {A : Option Addr} {l : List α} (h : FlatRow enc 7 w A l) {i : Nat} (hi : i < l.length)
    {v0 v1 v2 v3 v4 v5 v6 : Value} (he : enc l[i] = [v0, v1, v2, v3, v4, v5, v6]) : ∃ ad, A = some ad ∧ w.cell? (ad.add (i * 7)) = some v0 ∧ w.cell? ⟨(ad.add (i * 7)).block, (ad.add (i * 7)).off + 1, none⟩ = some v1 ∧ w.cell? ⟨(ad.add (i * 7)).block, (ad.add (i * 7)).off + 2, none⟩ = some v2 ∧
      w.cell? ⟨(ad.add (i * 7)).block, (ad.add (i * 7)).off + 3, none⟩ = some v3 ∧ w.cell? ⟨(ad.add (i * 7)).block, (ad.add (i * 7)).off + 4, none⟩ = some v4 ∧ w.cell? ⟨(ad.add (i * 7)).block, (ad.add (i * 7)).off + 5, none⟩ = some v5 ∧ w.cell? ⟨(ad.add (i * 7)).block, (ad.add (i * 7)).off + 6, none⟩ = some v6 := by
  obtain ⟨ad, e, hc⟩ := h.2 i l[i] (by simp [hi])
  rw [he] at hc
  refine ⟨ad, e, hc 0 _ rfl, ?_, ?_, ?_, ?_, ?_, ?_⟩
  · rw [← addr_field ad (i * 7) 1 (by decide)]; exact hc 1 _ rfl
  · rw [← addr_field ad (i * 7) 2 (by decide)]; exact hc 2 _ rfl
  · rw [← addr_field ad (i * 7) 3 (by decide)]; exact hc 3 _ rfl
  · rw [← addr_field ad (i * 7) 4 (by decide)]; exact hc 4 _ rfl
  · rw [← addr_field ad (i * 7) 5 (by decide)]; exact hc 5 _ rfl
  · rw [← addr_field ad (i * 7) 6 (by decide)]; exact hc 6 _ rfl

/-! Plain. -/
def allB (f : Nat → Bool) (n : Nat) : Bool := (List.range n).all f
theorem allB_end {f : Nat → Bool} {n : Nat} (h : ∀ j, j < n → f j = true) : allB f n = true := List.all_eq_true.2 fun x hx => h x (List.mem_range.1 hx)
theorem allB_stop {f : Nat → Bool} {n k : Nat} (hk : k < n) (h : f k = false) : allB f n = false := by
  refine Bool.eq_false_iff.2 fun e => ?_
  have := List.all_eq_true.1 e k (List.mem_range.2 hk)
  rw [h] at this; cases this
theorem allB_get {f : Nat → Bool} {n k : Nat} (h : allB f n = true) (hk : k < n) : f k = true := List.all_eq_true.1 h k (List.mem_range.2 hk)
theorem succ_all {f : Nat → Bool} {k : Nat} (h : ∀ j, j < k → f j = true) (hk : f k = true) : ∀ j, j < k + 1 → f j = true := fun j hj => by
  rcases Nat.lt_succ_iff_lt_or_eq.1 hj with h1 | rfl
  · exact h j h1
  · exact hk

instance : Inhabited Portion := ⟨⟨0, 0⟩⟩
instance : Inhabited Heap := ⟨⟨⟨#[]⟩, 0, 0, [], 0, ⟨0, 0⟩, none, 0⟩⟩

/-- How many loads parts have together. -/
def sumL (l : List Portion) : Int := (l.map (·.loads)).sum
/-- How many loads of parts are of a field. -/
def ofL (l : List Portion) (k : Int) : Int := (l.map fun p => if p.plot = k then p.loads else 0).sum
def leftL (l : List Heap) (k : Int) : Int := (l.map fun h => ofL h.parts k).sum
def heapsL (l : List Heap) : Int := (l.map fun h => sumL h.parts).sum
def totalS (s : Store) : Int := sumL s.used + sumL s.waste + heapsL s.heaps

/-- Whether the part at j may stand there, of n fields. -/
def partAt (n : Nat) (l : List Portion) (j : Nat) : Bool :=
  inB (l.getD j default).plot 0 ((n : Int) - 1) && inB (l.getD j default).loads 1 100000 && (decide (j = 0) || decide ((l.getD (j - 1) default).plot ≠ (l.getD j default).plot))
def properB (n : Nat) (l : List Portion) : Bool := allB (partAt n l) l.length
/-- Whether a heap may be, but for its name being another one's. -/
def heapB (pl : List Plot) (h : Heap) : Bool :=
  nameB h.name && cropB h.crop && inB h.stage 1 3 && decide (h.parts.length ≠ 0) && properB pl.length h.parts && spanB h.wet.lo h.wet.hi 0 1000 &&
    h.parts.all (fun p => decide ((plotAt' pl p.plot).crop = h.crop)) && (if h.stage = 3 then inB h.per 1 100 && decide (sumL h.parts % h.per = 0) else decide (h.per = 0))
where plotAt' (pl : List Plot) (i : Int) : Plot := pl.getD i.toNat default
def heapNew (l : List Heap) (i : Nat) : Bool := (l.take i).all fun h => decide (h.name ≠ (l.getD i default).name)
def heapAt (pl : List Plot) (l : List Heap) (i : Nat) : Bool := heapNew l i && heapB pl (l.getD i default)
def fieldAt (s : Store) (i : Nat) : Bool := inB (s.last.getD i 0) (-1) s.year && decide (s.given.getD i 0 = leftL s.heaps i + ofL s.used i + ofL s.waste i)
/-- Whether a store may be. -/
def storeB (pl : List Plot) (s : Store) : Bool :=
  inB s.year 0 100 && decide (s.last.length = pl.length) && decide (s.given.length = pl.length) && decide (s.heaps.length ≤ 16) && properB pl.length s.used && properB pl.length s.waste &&
    allB (heapAt pl s.heaps) s.heaps.length && decide (totalS s ≤ 100000) && allB (fieldAt s) pl.length
/-- The error of a store. -/
def checkS (pl : List Plot) (dry : Int) (s : Store) : Int := if checkI pl dry ≠ 0 then checkI pl dry else if storeB pl s = true then 0 else 8
end Go.Proofs.Ytpgkhlpepckfgaa
end
section
namespace Go.Proofs.Ytpgkhlpepckfgaa
open Go.RowKit Go.Lib

def plotAt (l : List Plot) (i : Int) : Plot := l.getD i.toNat default
def costOf (pl : List Plot) (s : List Int) : Int := (s.map fun i => (plotAt pl i).cost).sum
def subAt (pl : List Plot) (n : Need) (i : Int) : Need := needSub n (plotAt pl i).crop ((plotAt pl i).size * (plotAt pl i).yield.lo)
def needAfter (pl : List Plot) (n : Need) (s : List Int) : Need := s.foldl (subAt pl) n
def enoughB (pl : List Plot) (n : Need) (s : List Int) : Bool := decide (needMax (needAfter pl n s) ≤ 0)
theorem costOf_snoc (pl : List Plot) (s : List Int) (i : Int) : costOf pl (s ++ [i]) = costOf pl s + (plotAt pl i).cost := by simp [costOf, Int.add_comm]
theorem needAfter_snoc (pl : List Plot) (n : Need) (s : List Int) (i : Int) : needAfter pl n (s ++ [i]) = subAt pl (needAfter pl n s) i := by simp [needAfter]

/-- Which of two choices is the better one (below 0: the first). -/
def cmp3 (c : Int) (s : List Int) (d : Int) (t : List Int) : Int := orL [compareInt c d, compareInt s.length t.length, cmpL s t]

theorem compareInt_self (x : Int) : compareInt x x = 0 := by simp [compareInt]
theorem compareInt_zero {x y : Int} : compareInt x y = 0 ↔ x = y := by unfold compareInt; split <;> (try split) <;> constructor <;> intro h <;> omega
theorem compareInt_neg {x y : Int} : compareInt x y < 0 ↔ x < y := by unfold compareInt; split <;> (try split) <;> constructor <;> intro h <;> omega
theorem compareInt_swap (x y : Int) : compareInt y x = -compareInt x y := by unfold compareInt; split <;> split <;> (try split) <;> (try split) <;> omega

theorem cmpL_self : ∀ l : List Int, cmpL l l = 0
  | [] => rfl
  | x :: l => by rw [cmpL, if_pos (compareInt_self x), cmpL_self l]
theorem cmpL_zero : ∀ {l m : List Int}, cmpL l m = 0 → l = m
  | [], [], _ => rfl
  | [], _ :: _, h => by simp [cmpL] at h
  | _ :: _, [], h => by simp [cmpL] at h
  | x :: l, y :: m, h => by
    rw [cmpL] at h
    by_cases h0 : compareInt x y = 0
    · rw [if_pos h0] at h; rw [compareInt_zero.1 h0, cmpL_zero h]
    · rw [if_neg h0] at h; exact absurd h h0
theorem cmpL_swap : ∀ (l m : List Int), cmpL m l = -cmpL l m
  | [], [] => rfl
  | [], _ :: _ => rfl
  | _ :: _, [] => rfl
  | x :: l, y :: m => by
    rw [cmpL, cmpL, compareInt_swap x y, cmpL_swap l m]
    by_cases h0 : compareInt x y = 0
    · rw [if_pos h0, if_pos (by omega)]
    · rw [if_neg h0, if_neg (by omega)]
theorem cmpL_trans : ∀ {l m k : List Int}, cmpL l m < 0 → cmpL m k < 0 → cmpL l k < 0
  | [], m, [], h1, h2 => by
    cases m with
    | nil => exact h1
    | cons y m => simp [cmpL] at h2
  | [], _, _ :: _, _, _ => by simp [cmpL]
  | x :: l, [], _, h1, _ => by simp [cmpL] at h1
  | x :: l, y :: m, [], _, h2 => by simp [cmpL] at h2
  | x :: l, y :: m, z :: k, h1, h2 => by
    rw [cmpL] at h1 h2 ⊢
    by_cases a : compareInt x y = 0
    · rw [if_pos a] at h1
      have := compareInt_zero.1 a
      subst this
      by_cases b : compareInt x z = 0
      · rw [if_pos b] at h2 ⊢; exact cmpL_trans h1 h2
      · rw [if_neg b] at h2 ⊢; exact h2
    · rw [if_neg a] at h1
      have hxy := compareInt_neg.1 h1
      have hyz : y ≤ z := by
        by_cases b : compareInt y z = 0
        · exact Int.le_of_eq (compareInt_zero.1 b)
        · rw [if_neg b] at h2; exact Int.le_of_lt (compareInt_neg.1 h2)
      rw [if_neg (fun e => by have := compareInt_zero.1 e; omega)]
      exact compareInt_neg.2 (by omega)

theorem orL3 (a b c : Int) : orL [a, b, c] = if a = 0 then (if b = 0 then c else b) else a := by
  simp only [orL]
  by_cases ha : a = 0 <;> by_cases hb : b = 0 <;> by_cases hc : c = 0 <;> simp [ha, hb, hc]
theorem cmp3_zero {c d : Int} {s t : List Int} (h : cmp3 c s d t = 0) : c = d ∧ s = t := by
  rw [cmp3, orL3] at h
  by_cases a : compareInt c d = 0
  · rw [if_pos a] at h
    by_cases b : compareInt (s.length : Int) t.length = 0
    · rw [if_pos b] at h; exact ⟨compareInt_zero.1 a, cmpL_zero h⟩
    · rw [if_neg b] at h; exact absurd h b
  · rw [if_neg a] at h; exact absurd h a
theorem cmp3_swap (c : Int) (s : List Int) (d : Int) (t : List Int) : cmp3 d t c s = -cmp3 c s d t := by
  rw [cmp3, cmp3, orL3, orL3, compareInt_swap c d, compareInt_swap (s.length : Int) t.length, cmpL_swap s t]
  by_cases a : compareInt c d = 0 <;> by_cases b : compareInt (s.length : Int) t.length = 0 <;> simp [a, b]
theorem cmp3_trans {c d e : Int} {s t u : List Int} (h1 : cmp3 c s d t < 0) (h2 : cmp3 d t e u < 0) : cmp3 c s e u < 0 := by
  rw [cmp3, orL3] at h1 h2 ⊢
  by_cases a : compareInt c d = 0
  · have := compareInt_zero.1 a
    subst this
    rw [if_pos a] at h1
    by_cases a2 : compareInt c e = 0
    · rw [if_pos a2] at h2 ⊢
      by_cases b : compareInt (s.length : Int) t.length = 0
      · have hb := compareInt_zero.1 b
        rw [if_pos b] at h1
        by_cases b2 : compareInt (t.length : Int) u.length = 0
        · rw [if_pos b2] at h2
          rw [if_pos (compareInt_zero.2 (by have := compareInt_zero.1 b2; omega))]
          exact cmpL_trans h1 h2
        · rw [if_neg b2] at h2
          have := compareInt_neg.1 h2
          rw [if_neg (fun e => by have := compareInt_zero.1 e; omega)]
          exact compareInt_neg.2 (by omega)
      · rw [if_neg b] at h1
        have hlt := compareInt_neg.1 h1
        have hle : (t.length : Int) ≤ u.length := by
          by_cases b2 : compareInt (t.length : Int) u.length = 0
          · exact Int.le_of_eq (compareInt_zero.1 b2)
          · rw [if_neg b2] at h2; exact Int.le_of_lt (compareInt_neg.1 h2)
        rw [if_neg (fun e => by have := compareInt_zero.1 e; omega)]
        exact compareInt_neg.2 (by omega)
    · rw [if_neg a2] at h2 ⊢; exact h2
  · rw [if_neg a] at h1
    have hlt := compareInt_neg.1 h1
    have hle : d ≤ e := by
      by_cases a2 : compareInt d e = 0
      · exact Int.le_of_eq (compareInt_zero.1 a2)
      · rw [if_neg a2] at h2; exact Int.le_of_lt (compareInt_neg.1 h2)
    rw [if_neg (fun e => by have := compareInt_zero.1 e; omega)]
    exact compareInt_neg.2 (by omega)

/-- One choice is looked at. -/
def stepC (pl : List Plot) (n : Need) (b : Best) (s : List Int) : Best :=
  if enoughB pl n s = true ∧ (b.found = false ∨ cmp3 (costOf pl s) s b.cost b.choice < 0) then ⟨true, costOf pl s, s⟩ else b
theorem leafP_step (pl : List Plot) (n : Need) (s : List Int) (b : Best) : leafP (costOf pl s) (needAfter pl n s) s b = stepC pl n b s := by
  unfold leafP stepC enoughB better cmp3
  by_cases h : 0 < needMax (needAfter pl n s)
  · rw [if_pos h, if_neg (by simp; intro h2; omega)]
  · rw [if_neg h]
    have h2 : needMax (needAfter pl n s) ≤ 0 := by omega
    by_cases hf : b.found = false
    · rw [if_pos hf, if_pos (by simp [h2, hf])]
    · rw [if_neg hf]
      by_cases hb : orL [compareInt (costOf pl s) b.cost, compareInt (s.length : Int) b.choice.length, cmpL s b.choice] < 0
      · rw [if_pos hb, if_pos (by simp [h2, hb])]
      · rw [if_neg hb, if_neg (by simp [h2, hf]; omega)]

/-- All choices that begin with s, of the fields from i on, k of them. -/
def leaves : Nat → Int → List Int → List (List Int)
  | 0, _, s => [s]
  | k + 1, i, s => leaves k (i + 1) (s ++ [i]) ++ leaves k (i + 1) s
theorem walkP_fold (pl : List Plot) (n : Need) : ∀ (ps : List Plot) (i : Nat) (s : List Int) (b : Best), pl.drop i = ps → i ≤ pl.length →
    walkP ps i (costOf pl s) (needAfter pl n s) s b = (leaves ps.length i s).foldl (stepC pl n) b
  | [], i, s, b, _, _ => by rw [walkP, leafP_step]; rfl
  | p :: ps, i, s, b, hd, hi => by
    have hlt : i < pl.length := by have := congrArg List.length hd; simp at this; omega
    have hcons := List.drop_eq_getElem_cons hlt
    rw [hd] at hcons
    obtain ⟨rfl, hps⟩ := List.cons.inj hcons
    have hat : plotAt pl i = pl[i] := by unfold plotAt; rw [Int.toNat_natCast, getD_lt _ hlt]
    have hc : ((i : Int) + 1) = ((i + 1 : Nat) : Int) := by omega
    rw [walkP, List.length_cons, leaves, List.foldl_append]
    have h1 : costOf pl s + pl[i].cost = costOf pl (s ++ [(i : Int)]) := by rw [costOf_snoc, hat]
    have h2 : needSub (needAfter pl n s) pl[i].crop (pl[i].size * pl[i].yield.lo) = needAfter pl n (s ++ [(i : Int)]) := by rw [needAfter_snoc, subAt, hat]
    rw [h1, h2, hc, walkP_fold pl n ps (i + 1) _ b hps.symm hlt, walkP_fold pl n ps (i + 1) _ _ hps.symm hlt]
end Go.Proofs.Ytpgkhlpepckfgaa
end
section
namespace Go.Proofs.Ytpgkhlpepckfgaa
open Go.RowKit Go.Lib

/-- b is the best one of a list of choices. -/
def IsBest (pl : List Plot) (n : Need) (L : List (List Int)) (b : Best) : Prop :=
  (b.found = false → b = ⟨false, 0, []⟩ ∧ ∀ s ∈ L, enoughB pl n s = false) ∧
  (b.found = true → b.choice ∈ L ∧ enoughB pl n b.choice = true ∧ b.cost = costOf pl b.choice ∧ ∀ s ∈ L, enoughB pl n s = true → ¬ cmp3 (costOf pl s) s b.cost b.choice < 0)

theorem isBest_nil (pl : List Plot) (n : Need) : IsBest pl n [] ⟨false, 0, []⟩ := ⟨fun _ => ⟨rfl, by simp⟩, fun h => by cases h⟩
theorem cmp3_irrefl (c : Int) (s : List Int) : ¬ cmp3 c s c s < 0 := by
  have := cmp3_swap c s c s
  omega
theorem isBest_step {pl : List Plot} {n : Need} {L : List (List Int)} {b : Best} (h : IsBest pl n L b) (s : List Int) : IsBest pl n (L ++ [s]) (stepC pl n b s) := by
  unfold stepC
  by_cases hs : enoughB pl n s = true ∧ (b.found = false ∨ cmp3 (costOf pl s) s b.cost b.choice < 0)
  · rw [if_pos hs]
    refine ⟨fun e => (by cases e), fun _ => ⟨by simp, hs.1, rfl, fun t ht he hlt => ?_⟩⟩
    simp only [List.mem_append, List.mem_singleton] at ht
    rcases ht with ht | rfl
    · rcases hs.2 with hf | hlt2
      · rw [(h.1 hf).2 t ht] at he; cases he
      · by_cases hf : b.found = false
        · rw [(h.1 hf).2 t ht] at he; cases he
        · exact (h.2 (by simpa using hf)).2.2.2 t ht he (cmp3_trans hlt hlt2)
    · exact cmp3_irrefl _ _ hlt
  · rw [if_neg hs]
    refine ⟨fun hf => ⟨(h.1 hf).1, fun t ht => ?_⟩, fun hf => ?_⟩
    · simp only [List.mem_append, List.mem_singleton] at ht
      rcases ht with ht | rfl
      · exact (h.1 hf).2 t ht
      · by_cases he : enoughB pl n t = true
        · exact absurd ⟨he, .inl hf⟩ hs
        · simpa using he
    · obtain ⟨a1, a2, a3, a4⟩ := h.2 hf
      refine ⟨by simp [a1], a2, a3, fun t ht he hlt => ?_⟩
      simp only [List.mem_append, List.mem_singleton] at ht
      rcases ht with ht | rfl
      · exact a4 t ht he hlt
      · exact hs ⟨he, .inr hlt⟩
theorem isBest_fold {pl : List Plot} {n : Need} : ∀ (L : List (List Int)) {L0 : List (List Int)} {b : Best}, IsBest pl n L0 b → IsBest pl n (L0 ++ L) (L.foldl (stepC pl n) b)
  | [], _, _, h => by simpa using h
  | s :: L, L0, b, h => by
    have := isBest_fold L (isBest_step h s)
    rw [List.append_assoc] at this
    exact this
theorem isBest_unique {pl : List Plot} {n : Need} {L M : List (List Int)} {b c : Best} (hb : IsBest pl n L b) (hc : IsBest pl n M c) (hm : ∀ s, s ∈ L ↔ s ∈ M) : b = c := by
  cases hf : b.found with
  | false =>
    obtain ⟨e1, e2⟩ := hb.1 hf
    cases hg : c.found with
    | false => rw [e1, (hc.1 hg).1]
    | true =>
      obtain ⟨a1, a2, _⟩ := hc.2 hg
      rw [e2 _ ((hm _).2 a1)] at a2; cases a2
  | true =>
    obtain ⟨a1, a2, a3, a4⟩ := hb.2 hf
    cases hg : c.found with
    | false => rw [(hc.1 hg).2 _ ((hm _).1 a1)] at a2; cases a2
    | true =>
      obtain ⟨b1, b2, b3, b4⟩ := hc.2 hg
      have h1 := b4 _ ((hm _).1 a1) a2
      have h2 := a4 _ ((hm _).2 b1) b2
      rw [← a3] at h1
      rw [← b3] at h2
      have h3 := cmp3_swap b.cost b.choice c.cost c.choice
      have h0 : cmp3 b.cost b.choice c.cost c.choice = 0 := by omega
      obtain ⟨z1, z2⟩ := cmp3_zero h0
      cases b; cases c; simp_all

/-- The fields of a set of bits. -/
def pick (n set : Nat) : List Int := ((List.range n).filter fun i => set.testBit i).map fun (i : Nat) => (i : Int)
def fields (i k : Nat) : List Int := (List.range' i k).map fun (j : Nat) => (j : Int)

theorem mem_leaves : ∀ (k i : Nat) (s t : List Int), t ∈ leaves k i s ↔ ∃ u, u.Sublist (fields i k) ∧ t = s ++ u
  | 0, i, s, t => by
    constructor
    · intro h
      simp [leaves] at h
      exact ⟨[], by simp [fields], by simp [h]⟩
    · rintro ⟨u, hu, rfl⟩
      simp [fields] at hu
      simp [leaves, hu]
  | k + 1, i, s, t => by
    have hc : ((i : Int) + 1) = ((i + 1 : Nat) : Int) := by omega
    have hf : fields i (k + 1) = (i : Int) :: fields (i + 1) k := by simp [fields, List.range'_succ]
    rw [leaves, List.mem_append, hc, mem_leaves k (i + 1), mem_leaves k (i + 1), hf]
    constructor
    · rintro (⟨u, hu, rfl⟩ | ⟨u, hu, rfl⟩)
      · exact ⟨(i : Int) :: u, hu.cons_cons _, by simp⟩
      · exact ⟨u, hu.cons _, rfl⟩
    · rintro ⟨u, hu, rfl⟩
      rcases List.sublist_cons_iff.1 hu with h | ⟨r, rfl, h⟩
      · exact .inr ⟨u, h, rfl⟩
      · exact .inl ⟨r, h, by simp⟩

theorem fields_range (n : Nat) : fields 0 n = (List.range n).map fun (j : Nat) => (j : Int) := by rw [fields, List.range_eq_range']
theorem pick_sublist (n set : Nat) : (pick n set).Sublist (fields 0 n) := by
  rw [fields_range]
  exact List.filter_sublist.map _
theorem pick_succ (n set : Nat) : pick (n + 1) set = pick n set ++ if set.testBit n then [(n : Int)] else [] := by
  unfold pick
  rw [List.range_succ, List.filter_append, List.map_append]
  congr 1
  by_cases h : set.testBit n <;> simp [h]
theorem pick_congr {n a b : Nat} (h : ∀ i, i < n → a.testBit i = b.testBit i) : pick n a = pick n b := by
  unfold pick
  congr 1
  apply List.filter_congr
  intro i hi
  exact h i (List.mem_range.1 hi)
theorem pick_all : ∀ (n : Nat) (t : List Int), t.Sublist (fields 0 n) → ∃ set, set < 2 ^ n ∧ pick n set = t
  | 0, t, h => by
    simp [fields] at h
    exact ⟨0, by simp, by simp [pick, h]⟩
  | n + 1, t, h => by
    rw [fields_range, List.range_succ, List.map_append, List.map_singleton, ← fields_range] at h
    obtain ⟨t1, t2, rfl, h1, h2⟩ := List.sublist_append_iff.1 h
    obtain ⟨set, hs, hp⟩ := pick_all n t1 h1
    have h2' : t2 = [] ∨ t2 = [(n : Int)] := by
      rcases List.sublist_cons_iff.1 h2 with h3 | ⟨r, rfl, h3⟩
      · exact .inl (List.sublist_nil.1 h3)
      · exact .inr (by rw [List.sublist_nil.1 h3])
    rcases h2' with rfl | rfl
    · refine ⟨set, by rw [Nat.pow_succ]; omega, ?_⟩
      rw [pick_succ, Nat.testBit_lt_two_pow hs, hp]
      simp
    · refine ⟨set ||| 2 ^ n, Nat.or_lt_two_pow (by rw [Nat.pow_succ]; omega) (by rw [Nat.pow_succ]; have := Nat.two_pow_pos n; omega), ?_⟩
      rw [pick_succ]
      have e1 : (set ||| 2 ^ n).testBit n = true := by simp
      rw [e1, if_pos rfl, pick_congr (b := set) (fun i hi => by rw [Nat.testBit_or, Nat.testBit_two_pow]; simp; omega), hp]

/-- All choices by their sets of bits, up to a set. -/
def picks (n m : Nat) : List (List Int) := (List.range m).map (pick n)
theorem picks_succ (n m : Nat) : picks n (m + 1) = picks n m ++ [pick n m] := by rw [picks, List.range_succ, List.map_append]; rfl
def refC (pl : List Plot) (n : Need) (m : Nat) : Best := (picks pl.length m).foldl (stepC pl n) ⟨false, 0, []⟩
theorem refC_succ (pl : List Plot) (n : Need) (m : Nat) : refC pl n (m + 1) = stepC pl n (refC pl n m) (pick pl.length m) := by
  rw [refC, picks_succ, List.foldl_append]; rfl

/-- THE TWO ARE ONE. -/
theorem choose_one (pl : List Plot) (n : Need) : walkP pl 0 0 n [] ⟨false, 0, []⟩ = refC pl n (2 ^ pl.length) := by
  have h := walkP_fold pl n pl 0 [] ⟨false, 0, []⟩ (by simp) (Nat.zero_le _)
  have h0 : costOf pl [] = 0 := rfl
  have h1 : needAfter pl n [] = n := rfl
  rw [h0, h1] at h
  rw [show ((0 : Nat) : Int) = 0 from rfl] at h
  rw [h]
  refine isBest_unique (isBest_fold (leaves pl.length 0 []) (isBest_nil pl n)) (isBest_fold (picks pl.length (2 ^ pl.length)) (isBest_nil pl n)) fun s => ?_
  rw [List.nil_append, List.nil_append]
  have hm := mem_leaves pl.length 0 [] s
  rw [show ((0 : Nat) : Int) = 0 from rfl] at hm
  rw [hm]
  unfold picks
  rw [List.mem_map]
  constructor
  · rintro ⟨u, hu, e⟩
    obtain ⟨set, hs, hp⟩ := pick_all pl.length u hu
    exact ⟨set, List.mem_range.2 hs, by rw [hp, e]; rfl⟩
  · rintro ⟨set, hs, rfl⟩
    exact ⟨_, pick_sublist _ _, rfl⟩
end Go.Proofs.Ytpgkhlpepckfgaa
end
