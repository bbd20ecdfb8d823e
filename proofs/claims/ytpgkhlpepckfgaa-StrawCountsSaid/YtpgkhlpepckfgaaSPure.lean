/-
  What the straw layer's checks answer, over plain data.
-/
import Derived.Test.YtpgkhlpepckfgaaBase
import Derived.Test.YtpgkhlpepckfgaaWA
namespace Go.Proofs.Ytpgkhlpepckfgaa
open Go.RowKit

def plotOk (p : Plot) : Bool :=
  cropB p.crop && inB p.size 1 100 && spanB p.yield.lo p.yield.hi 0 1000 && inB p.rest 1 100 && spanB p.wet.lo p.wet.hi 0 1000 && inB p.cost 0 1000000
def hasName (l : List Plot) (k : Nat) (s : ByteArray) : Bool := (l.take k).any fun q => decide (q.name = s)
def plotErr (l : List Plot) (i : Nat) : Int :=
  if nameB (l.getD i default).name = false then 5 else if hasName l i (l.getD i default).name = true then 6 else if plotOk (l.getD i default) = false then 1 else 0
/-- The error of a farm. -/
def checkI (l : List Plot) (dry : Int) : Int :=
  if 12 < l.length then 3 else if firstErr (plotErr l) l.length = 0 then (if inB dry 0 1000 = true then 0 else 1) else firstErr (plotErr l) l.length

theorem checkI_long {l : List Plot} {dry : Int} (h : 12 < l.length) : checkI l dry = 3 := if_pos h
theorem checkI_stop {l : List Plot} {dry : Int} {k : Nat} (h : ¬ 12 < l.length) (hk : k < l.length) (h0 : ∀ j, j < k → plotErr l j = 0) (h1 : plotErr l k ≠ 0) : checkI l dry = plotErr l k := by
  rw [checkI, if_neg h, firstErr_stop h0 h1 hk, if_neg h1]
theorem checkI_end {l : List Plot} {dry : Int} (h : ¬ 12 < l.length) (h0 : ∀ j, j < l.length → plotErr l j = 0) : checkI l dry = if inB dry 0 1000 = true then 0 else 1 := by
  rw [checkI, if_neg h, firstErr_none h0, if_pos rfl]
theorem getD_lt {α : Type} {l : List α} {i : Nat} (d : α) (h : i < l.length) : l.getD i d = l[i] := by simp [List.getD_eq_getElem?_getD, h]
theorem hasName_succ (l : List Plot) (k : Nat) (h : k < l.length) (s : ByteArray) : hasName l (k + 1) s = (hasName l k s || decide (l[k].name = s)) := by
  unfold hasName
  rw [List.take_succ_eq_append_getElem h, List.any_append]
  simp

/-- The map of names that were met. -/
def knownM (l : List Plot) (k : Nat) : Value → Option Value
  | .string s => if hasName l k s = true then some (.bool true) else none
  | _ => none
theorem knownM_get (l : List Plot) (k : Nat) (s : ByteArray) : (knownM l k (.string s)).getD (.bool false) = .bool (hasName l k s) := by
  show (if hasName l k s = true then some (Value.bool true) else none).getD (Value.bool false) = _
  cases h : hasName l k s <;> rfl
theorem knownM_zero (l : List Plot) : knownM l 0 = fun _ => none := by
  funext v; cases v <;> simp [knownM, hasName]
theorem knownM_put (l : List Plot) (k : Nat) (h : k < l.length) : knownM l (k + 1) (.string l[k].name) = some (.bool true) := by
  show (if hasName l (k + 1) l[k].name = true then some (Value.bool true) else none) = _
  rw [hasName_succ l k h]; simp
theorem knownM_other (l : List Plot) (k : Nat) (h : k < l.length) (x : Value) (hx : x ≠ .string l[k].name) : knownM l (k + 1) x = knownM l k x := by
  cases x with
  | string s =>
    show (if hasName l (k + 1) s = true then some (Value.bool true) else none) = (if hasName l k s = true then some (Value.bool true) else none)
    rw [hasName_succ l k h]; have : ¬ l[k].name = s := fun e => hx (by rw [e]); simp [this]
  | _ => rfl

/-- Plots lie there, their names no longer than a string may be. -/
def RdPlots (w : World) (A : Option Addr) (l : List Plot) : Prop := FlatRow encPlot 9 w A l ∧ ∀ p ∈ l, p.name.size ≤ 140737488351232
theorem RdPlots.below {w w1 : World} {A : Option Addr} {l : List Plot} (h : RdPlots w A l) (hb : Below w.heap.size w w1) : RdPlots w1 A l := ⟨h.1.below hb, h.2⟩
theorem RdPlots.name {w : World} {A : Option Addr} {l : List Plot} (h : RdPlots w A l) {i : Nat} (hi : i < l.length) : l[i].name.size ≤ 140737488351232 := h.2 _ (List.getElem_mem hi)

theorem plotErr_name {l : List Plot} {k : Nat} (hk : k < l.length) (h : nameB l[k].name = false) : plotErr l k = 5 := by
  rw [plotErr, getD_lt _ hk, if_pos h]
theorem plotErr_twice {l : List Plot} {k : Nat} (hk : k < l.length) (h : nameB l[k].name = true) (h1 : hasName l k l[k].name = true) : plotErr l k = 6 := by
  rw [plotErr, getD_lt _ hk, if_neg (by rw [h]; decide), if_pos h1]
theorem plotErr_arg {l : List Plot} {k : Nat} (hk : k < l.length) (h : nameB l[k].name = true) (h1 : hasName l k l[k].name = false) (h2 : plotOk l[k] = false) : plotErr l k = 1 := by
  rw [plotErr, getD_lt _ hk, if_neg (by rw [h]; decide), if_neg (by rw [h1]; decide), if_pos h2]
theorem plotErr_ok {l : List Plot} {k : Nat} (hk : k < l.length) (h : nameB l[k].name = true) (h1 : hasName l k l[k].name = false) (h2 : plotOk l[k] = true) : plotErr l k = 0 := by
  rw [plotErr, getD_lt _ hk, if_neg (by rw [h]; decide), if_neg (by rw [h1]; decide), if_neg (by rw [h2]; decide)]
theorem bytes_beq (a b : ByteArray) : (a.toList == b.toList) = decide (a = b) := by
  rw [Lib.toList_data, Lib.toList_data, Bool.eq_iff_iff]
  simp only [beq_iff_eq, decide_eq_true_eq]
  constructor
  · intro h
    cases a; cases b
    simp at h
    rw [h]
  · intro h; rw [h]
theorem below_succ {f : Nat → Int} {k : Nat} (h : ∀ j, j < k → f j = 0) (hk : f k = 0) : ∀ j, j < k + 1 → f j = 0 := fun j hj => by
  rcases Nat.lt_or_ge j k with h1 | h1
  · exact h j h1
  · obtain rfl : j = k := by omega
    exact hk
theorem bcell {W w1 : World} (hb : Below W.heap.size W w1) : (∀ b o, b < W.heap.size → w1.cell? ⟨b, o, none⟩ = W.cell? ⟨b, o, none⟩) ∧ (∀ b o, b < W.heap.size → w1.frozen? ⟨b, o, none⟩ = W.frozen? ⟨b, o, none⟩) :=
  ⟨fun b o h => hb.cell (p := ⟨b, o, none⟩) h, fun b o h => hb.frozen (p := ⟨b, o, none⟩) h⟩
theorem checkI_zero {l : List Plot} {dry : Int} (h : checkI l dry = 0) : l.length ≤ 12 ∧ (∀ j, j < l.length → plotErr l j = 0) ∧ inB dry 0 1000 = true := by
  unfold checkI at h
  by_cases hl : 12 < l.length
  · rw [if_pos hl] at h; cases h
  · rw [if_neg hl] at h
    by_cases h0 : firstErr (plotErr l) l.length = 0
    · rw [if_pos h0] at h
      refine ⟨by omega, firstErr_zero h0, ?_⟩
      by_cases hd : inB dry 0 1000 = true
      · exact hd
      · rw [if_neg hd] at h; cases h
    · rw [if_neg h0] at h; exact absurd h h0
theorem plotErr_zero {l : List Plot} {k : Nat} (hk : k < l.length) (h : plotErr l k = 0) : nameB l[k].name = true ∧ hasName l k l[k].name = false ∧ plotOk l[k] = true := by
  rw [plotErr, getD_lt _ hk] at h
  by_cases h1 : nameB l[k].name = false
  · rw [if_pos h1] at h; cases h
  · rw [if_neg h1] at h
    by_cases h2 : hasName l k l[k].name = true
    · rw [if_pos h2] at h; cases h
    · rw [if_neg h2] at h
      by_cases h3 : plotOk l[k] = false
      · rw [if_pos h3] at h; cases h
      · exact ⟨by simpa using h1, by simpa using h2, by simpa using h3⟩
theorem checkI_ok {l : List Plot} {dry : Int} (h : checkI l dry = 0) : ∀ p ∈ l, plotOk p = true := fun p hp => by
  obtain ⟨i, hi, rfl⟩ := List.getElem_of_mem hp
  exact (plotErr_zero hi ((checkI_zero h).2.1 i hi)).2.2
/-- A field's own variable. -/
abbrev pblock (p : Plot) : Obj := .cells #[.string p.name, .int .i64 p.crop, .int .i64 p.size, .int .i64 p.yield.lo, .int .i64 p.yield.hi, .int .i64 p.rest, .int .i64 p.wet.lo, .int .i64 p.wet.hi, .int .i64 p.cost] 88
end Go.Proofs.Ytpgkhlpepckfgaa
