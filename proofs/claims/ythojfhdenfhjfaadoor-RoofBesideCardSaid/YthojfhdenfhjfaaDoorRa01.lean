/-
  Plain data of the straw layer, how it lies in memory, and small words. No program is named here.
-/
import Derived.Below
import Derived.Deep.Draws
import Derived.Lib.Hide
import Derived.WalkKit
set_option linter.all false
set_option linter.unusedVariables false
set_option linter.unusedSimpArgs false
namespace Go.Proofs.YthojfhdenfhjfaaDoor
open Go.RowKit

structure Span where
  lo : Int
  hi : Int
structure Plot where
  name : ByteArray
  crop : Int
  size : Int
  yield : Span
  rest : Int
  wet : Span
  cost : Int
instance : Inhabited Plot := ⟨⟨⟨#[]⟩, 0, 0, ⟨0, 0⟩, 0, ⟨0, 0⟩, 0⟩⟩

def encPlot (p : Plot) : List Value :=
  [.string p.name, .int .i64 p.crop, .int .i64 p.size, .int .i64 p.yield.lo, .int .i64 p.yield.hi, .int .i64 p.rest, .int .i64 p.wet.lo, .int .i64 p.wet.hi, .int .i64 p.cost]

/-- Elements lie there from A on, sz cells each. -/
def FlatRow {α : Type} (enc : α → List Value) (sz : Nat) (w : World) (A : Option Addr) (l : List α) : Prop :=
  l.length ≤ 140737488351232 ∧ ∀ (i : Nat) (x : α), l[i]? = some x → ∃ ad, A = some ad ∧ ∀ (j : Nat) (v : Value), (enc x)[j]? = some v → w.cell? (ad.add (i * sz + j)) = some v

theorem FlatRow.below {α : Type} {enc : α → List Value} {sz : Nat} {w w1 : World} {A : Option Addr} {l : List α} (h : FlatRow enc sz w A l) (hb : Below w.heap.size w w1) : FlatRow enc sz w1 A l :=
  ⟨h.1, fun i x hx => by
    obtain ⟨ad, e, hc⟩ := h.2 i x hx
    exact ⟨ad, e, fun j v hv => (hb.cell (World.block_lt_of_cell? w _ (hc j v hv))).trans (hc j v hv)⟩⟩

theorem FlatRow.mono {α : Type} {enc : α → List Value} {sz : Nat} {w w1 : World} {A : Option Addr} {l : List α} {B : Nat} (h : FlatRow enc sz w A l) (hb : Below B w w1) (hB : w.heap.size ≤ B) : FlatRow enc sz w1 A l :=
  h.below (hb.mono hB)

theorem add_zero' (a : Addr) (k : Nat) : a.add (k + 0) = a.add k := rfl
theorem addr_field (ad : Addr) (m j : Nat) (hj : 1 ≤ j) : ad.add (m + j) = ⟨(ad.add m).block, (ad.add m).off + j, none⟩ := by
  unfold Addr.add
  split <;> split <;> simp_all <;> omega

/-- The cells of one element, when there are nine. -/
theorem FlatRow.at9 {α : Type} {enc : α → List Value} {w : World} {A : Option Addr} {l : List α} (h : FlatRow enc 9 w A l) {i : Nat} (hi : i < l.length)
    {v0 v1 v2 v3 v4 v5 v6 v7 v8 : Value} (he : enc l[i] = [v0, v1, v2, v3, v4, v5, v6, v7, v8]) : ∃ ad, A = some ad ∧
    w.cell? (ad.add (i * 9)) = some v0 ∧
    w.cell? ⟨(ad.add (i * 9)).block, (ad.add (i * 9)).off + 1, none⟩ = some v1 ∧
    w.cell? ⟨(ad.add (i * 9)).block, (ad.add (i * 9)).off + 2, none⟩ = some v2 ∧
    w.cell? ⟨(ad.add (i * 9)).block, (ad.add (i * 9)).off + 3, none⟩ = some v3 ∧
    w.cell? ⟨(ad.add (i * 9)).block, (ad.add (i * 9)).off + 4, none⟩ = some v4 ∧
    w.cell? ⟨(ad.add (i * 9)).block, (ad.add (i * 9)).off + 5, none⟩ = some v5 ∧
    w.cell? ⟨(ad.add (i * 9)).block, (ad.add (i * 9)).off + 6, none⟩ = some v6 ∧
    w.cell? ⟨(ad.add (i * 9)).block, (ad.add (i * 9)).off + 7, none⟩ = some v7 ∧
    w.cell? ⟨(ad.add (i * 9)).block, (ad.add (i * 9)).off + 8, none⟩ = some v8 := by
  obtain ⟨ad, e, hc⟩ := h.2 i l[i] (by simp [hi])
  rw [he] at hc
  refine ⟨ad, e, hc 0 _ rfl, ?_, ?_, ?_, ?_, ?_, ?_, ?_, ?_⟩ <;> (rw [← addr_field _ _ _ (by omega)]; exact hc _ _ rfl)

/-- Two cells to an element. -/
theorem FlatRow.at2 {α : Type} {enc : α → List Value} {w : World} {A : Option Addr} {l : List α} (h : FlatRow enc 2 w A l) {i : Nat} (hi : i < l.length)
    {v0 v1 : Value} (he : enc l[i] = [v0, v1]) : ∃ ad, A = some ad ∧
    w.cell? (ad.add (i * 2)) = some v0 ∧ w.cell? ⟨(ad.add (i * 2)).block, (ad.add (i * 2)).off + 1, none⟩ = some v1 := by
  obtain ⟨ad, e, hc⟩ := h.2 i l[i] (by simp [hi])
  rw [he] at hc
  refine ⟨ad, e, hc 0 _ rfl, ?_⟩
  rw [← addr_field _ _ _ (by omega)]; exact hc _ _ rfl

/-- One cell to an element. -/
theorem FlatRow.at1 {α : Type} {enc : α → List Value} {w : World} {A : Option Addr} {l : List α} (h : FlatRow enc 1 w A l) {i : Nat} (hi : i < l.length)
    {v0 : Value} (he : enc l[i] = [v0]) : ∃ ad, A = some ad ∧ w.cell? (ad.add i) = some v0 := by
  obtain ⟨ad, e, hc⟩ := h.2 i l[i] (by simp [hi])
  rw [he] at hc
  have h1 := hc 0 _ rfl
  rw [Nat.mul_one] at h1
  exact ⟨ad, e, h1⟩

theorem flat_get {α : Type} {enc : α → List Value} {sz : Nat} (hl : ∀ x, (enc x).length = sz) : ∀ (l : List α) (i : Nat) (x : α) (j : Nat) (v : Value), l[i]? = some x → (enc x)[j]? = some v → (l.flatMap enc)[i * sz + j]? = some v
  | [], i, x, j, v, h, _ => by simp at h
  | y :: l, 0, x, j, v, h, hv => by
    simp at h
    subst h
    have hj : j < (enc y).length := (List.getElem?_eq_some_iff.1 hv).1
    rw [List.flatMap_cons, Nat.zero_mul, Nat.zero_add, List.getElem?_append_left hj]
    exact hv
  | y :: l, i + 1, x, j, v, h, hv => by
    rw [List.flatMap_cons, List.getElem?_append_right (by rw [hl, Nat.add_mul]; omega), hl]
    have : (i + 1) * sz + j - sz = i * sz + j := by rw [Nat.add_mul]; omega
    rw [this]
    exact flat_get hl l i x j v (by simpa using h) hv
/-- A block that holds just the elements. -/
theorem flatRow_block {α : Type} {enc : α → List Value} {sz : Nat} (hl : ∀ x, (enc x).length = sz) {w : World} {b t : Nat} {l : List α} (hb : w.heap[b]? = some (.cells (l.flatMap enc).toArray t (0, 0))) (hn : l.length ≤ 140737488351232) : FlatRow enc sz w (some ⟨b, 0, none⟩) l :=
  ⟨hn, fun i x hx => ⟨_, rfl, fun j v hv => by
    have h1 := flat_get hl l i x j v hx hv
    have h2 : (⟨b, 0, none⟩ : Addr).add (i * sz + j) = ⟨b, i * sz + j, none⟩ := by unfold Addr.add; split <;> simp_all
    rw [h2]
    simp [World.cell?, hb, h1]⟩⟩

/-- The first value that is not 0 of f 0, f 1 ..; 0 if there is none below n. -/
def firstErr (f : Nat → Int) : Nat → Int
  | 0 => 0
  | n + 1 => if firstErr f n = 0 then f n else firstErr f n
theorem firstErr_none {f : Nat → Int} : ∀ {n : Nat}, (∀ j, j < n → f j = 0) → firstErr f n = 0
  | 0, _ => rfl
  | n + 1, h => by rw [firstErr, firstErr_none (fun j hj => h j (by omega)), if_pos rfl]; exact h n (by omega)
theorem firstErr_stop {f : Nat → Int} {k : Nat} (h : ∀ j, j < k → f j = 0) (hk : f k ≠ 0) : ∀ {n : Nat}, k < n → firstErr f n = f k
  | 0, hn => by omega
  | n + 1, hn => by
    rw [firstErr]
    rcases Nat.lt_or_ge k n with h1 | h1
    · rw [firstErr_stop h hk h1, if_neg hk]
    · obtain rfl : k = n := by omega
      rw [firstErr_none h, if_pos rfl]
theorem firstErr_zero {f : Nat → Int} : ∀ {n : Nat}, firstErr f n = 0 → ∀ j, j < n → f j = 0
  | 0, _, j, hj => by omega
  | n + 1, h, j, hj => by
    rw [firstErr] at h
    by_cases h0 : firstErr f n = 0
    · rw [if_pos h0] at h
      rcases Nat.lt_or_ge j n with h1 | h1
      · exact firstErr_zero h0 j h1
      · obtain rfl : j = n := by omega
        exact h
    · rw [if_neg h0] at h; exact absurd h h0
theorem firstErr_congr {f g : Nat → Int} : ∀ {n : Nat}, (∀ j, j < n → f j = g j) → firstErr f n = firstErr g n
  | 0, _ => rfl
  | n + 1, h => by rw [firstErr, firstErr, firstErr_congr (fun j hj => h j (by omega)), h n (by omega)]

theorem below_drewN_ (w : World) (n : Nat) {B : Nat} : Below B w (w.drewN n) := ⟨rfl, rfl, rfl, Nat.le_refl _, fun _ _ => rfl⟩
theorem below_of_drewN {w w1 : World} {n : Nat} (hb : Below (w.drewN n).heap.size (w.drewN n) w1) : Below w.heap.size w w1 := (below_drewN_ w n).trans hb
theorem ret_int {k : IntKind} {a b : Int} (h : a = b) : Ending.returned (.int k a) = .returned (.int k b) := by rw [h]
theorem ret_bool {a b : Bool} (h : a = b) : Ending.returned (.bool a) = .returned (.bool b) := by rw [h]
end Go.Proofs.YthojfhdenfhjfaaDoor
