/-
  Plain facts of a store's check: what all fields have together is what all parts have.
-/
import Derived.Test.YtpgkhlpepckfgaaSHeaped
import Derived.Test.YtpgkhlpepckfgaaSCount
import Derived.Deep.OwnRows
namespace Go.Proofs.Ytpgkhlpepckfgaa
open Go.RowKit Go.Lib

def sumN (f : Nat → Int) : Nat → Int
  | 0 => 0
  | n + 1 => sumN f n + f n
theorem sumN_add (f g : Nat → Int) : ∀ n, sumN (fun i => f i + g i) n = sumN f n + sumN g n
  | 0 => rfl
  | n + 1 => by simp only [sumN]; rw [sumN_add f g n]; omega
theorem sumN_zero : ∀ n, sumN (fun _ => 0) n = 0
  | 0 => rfl
  | n + 1 => by simp only [sumN]; rw [sumN_zero n]; rfl
theorem sumN_none {f : Nat → Int} : ∀ {n : Nat}, (∀ i, i < n → f i = 0) → sumN f n = 0
  | 0, _ => rfl
  | n + 1, h => by simp only [sumN]; rw [sumN_none (fun i hi => h i (by omega)), h n (by omega)]; rfl
theorem sumN_one (x : Int) (p : Nat) : ∀ n, p < n → sumN (fun i => if (p : Int) = (i : Int) then x else 0) n = x
  | 0, h => by omega
  | n + 1, h => by
    simp only [sumN]
    by_cases hp : p = n
    · subst hp
      rw [sumN_none (fun i hi => if_neg (by omega)), if_pos rfl]; omega
    · rw [sumN_one x p n (by omega), if_neg (by omega)]; omega
theorem sumN_mono {f g : Nat → Int} : ∀ n, (∀ i, i < n → f i = g i) → sumN f n = sumN g n
  | 0, _ => rfl
  | n + 1, h => by simp only [sumN]; rw [sumN_mono n (fun i hi => h i (by omega)), h n (by omega)]
theorem sumN_bounds {f : Nat → Int} {B : Int} (h : ∀ i, 0 ≤ f i ∧ f i ≤ B) : ∀ n : Nat, 0 ≤ sumN f n ∧ sumN f n ≤ B * n
  | 0 => by simp [sumN]
  | n + 1 => by
    have := sumN_bounds h n
    have := h n
    have e : B * ((n + 1 : Nat) : Int) = B * n + B := by rw [Int.natCast_add, Int.mul_add]; simp
    simp only [sumN]
    rw [e]; omega
theorem sumN_of (n : Nat) : ∀ (l : List Portion), (∀ p ∈ l, 0 ≤ p.plot ∧ p.plot < (n : Int)) → sumN (fun i => ofL l i) n = sumL l
  | [], _ => by simp only [ofL, sumL, List.map_nil, List.sum_nil]; exact sumN_zero n
  | p :: l, h => by
    obtain ⟨h0, h1⟩ := h p (by simp)
    obtain ⟨m, hm⟩ : ∃ m : Nat, p.plot = (m : Int) := ⟨p.plot.toNat, by omega⟩
    have e : (fun i : Nat => ofL (p :: l) i) = fun i : Nat => (if (m : Int) = (i : Int) then p.loads else 0) + ofL l i := by
      funext i; simp only [ofL, List.map_cons, List.sum_cons, hm]
    rw [e, sumN_add, sumN_one _ _ _ (by omega), sumN_of n l (fun q hq => h q (by simp [hq]))]
    simp [sumL]
theorem sumN_left (n : Nat) : ∀ (l : List Heap), (∀ h ∈ l, ∀ p ∈ h.parts, 0 ≤ p.plot ∧ p.plot < (n : Int)) → sumN (fun i => leftL l i) n = heapsL l
  | [], _ => by simp only [leftL, heapsL, List.map_nil, List.sum_nil]; exact sumN_zero n
  | x :: l, h => by
    have e : (fun i : Nat => leftL (x :: l) i) = fun i : Nat => ofL x.parts i + leftL l i := by funext i; simp only [leftL, List.map_cons, List.sum_cons]
    rw [e, sumN_add, sumN_of n _ (h x (by simp)), sumN_left n l (fun y hy => h y (by simp [hy]))]
    simp [heapsL]
theorem proper_in {n : Nat} {l : List Portion} (h : properB n l = true) : ∀ p ∈ l, 0 ≤ p.plot ∧ p.plot < (n : Int) := fun p hp => by
  obtain ⟨y, hy, rfl⟩ := List.mem_iff_getElem.1 hp
  have hpy := allB_get h hy
  rw [partAt_get hy] at hpy
  simp only [Bool.and_eq_true, inB, decide_eq_true_eq] at hpy
  omega
theorem proper_mild {n : Nat} {l : List Portion} (h : properB n l = true) (hl : l.length ≤ 1000000) : Mild l := ⟨hl, fun p hp => by
  obtain ⟨y, hy, rfl⟩ := List.mem_iff_getElem.1 hp
  have hpy := allB_get h hy
  rw [partAt_get hy] at hpy
  simp only [Bool.and_eq_true, inB, decide_eq_true_eq] at hpy
  omega⟩
theorem heapB_proper {pl : List Plot} {h : Heap} (hh : heapB pl h = true) : properB pl.length h.parts = true := by
  rw [heapB_eq] at hh
  simp only [Bool.and_eq_true, heapHead] at hh
  exact hh.1.1.1.2

/-- What the field at i has, in all. -/
def fieldSum (s : Store) (i : Nat) : Int := ofL s.used i + ofL s.waste i + leftL s.heaps i
theorem fieldSum_total {pl : List Plot} {s : Store} (h1 : properB pl.length s.used = true) (h2 : properB pl.length s.waste = true) (h3 : ∀ j, j < s.heaps.length → heapAt pl s.heaps j = true) : sumN (fieldSum s) pl.length = totalS s := by
  have e : fieldSum s = fun i : Nat => (fun i : Nat => (fun i : Nat => ofL s.used i) i + (fun i : Nat => ofL s.waste i) i) i + (fun i : Nat => leftL s.heaps i) i := rfl
  rw [e, sumN_add, sumN_add, sumN_of _ _ (proper_in h1), sumN_of _ _ (proper_in h2), sumN_left]
  · rfl
  · intro h hh p hp
    obtain ⟨y, hy, rfl⟩ := List.mem_iff_getElem.1 hh
    have := h3 y hy
    unfold heapAt at this
    rw [getD_lt _ hy, Bool.and_eq_true] at this
    exact proper_in (heapB_proper this.2) p hp

/-- The first tests of a store. -/
def storeHead (pl : List Plot) (s : Store) : Bool := inB s.year 0 100 && decide (s.last.length = pl.length) && decide (s.given.length = pl.length) && decide (s.heaps.length ≤ 16) && properB pl.length s.used && properB pl.length s.waste
theorem storeB_eq (pl : List Plot) (s : Store) : storeB pl s = (storeHead pl s && allB (heapAt pl s.heaps) s.heaps.length && decide (totalS s ≤ 100000) && allB (fieldAt s) pl.length) := rfl
theorem checkS_bad {pl : List Plot} {dry : Int} {s : Store} (h : checkI pl dry ≠ 0) : checkS pl dry s = checkI pl dry := by unfold checkS; rw [if_pos h]
theorem checkS_not {pl : List Plot} {dry : Int} {s : Store} (h : checkI pl dry = 0) (h2 : storeB pl s = false) : checkS pl dry s = 8 := by unfold checkS; rw [h, if_neg (by decide), h2]; rfl
theorem checkS_ok {pl : List Plot} {dry : Int} {s : Store} (h : checkI pl dry = 0) (h2 : storeB pl s = true) : checkS pl dry s = 0 := by unfold checkS; rw [h, if_neg (by decide), h2]; rfl

/-- Heaps' names as fields' names. -/
def asPlots (l : List Heap) : List Plot := l.map fun h => { (default : Plot) with name := h.name }
theorem asPlots_len (l : List Heap) : (asPlots l).length = l.length := by simp [asPlots]
theorem asPlots_name {l : List Heap} {k : Nat} (h : k < l.length) : ((asPlots l)[k]'(by rw [asPlots_len]; exact h)).name = l[k].name := by simp [asPlots]
def knownH (l : List Heap) (k : Nat) : Value → Option Value := knownM (asPlots l) k
def hasH (l : List Heap) (k : Nat) (s : ByteArray) : Bool := hasName (asPlots l) k s
theorem knownH_get (l : List Heap) (k : Nat) (s : ByteArray) : (knownH l k (.string s)).getD (.bool false) = .bool (hasH l k s) := knownM_get _ k s
theorem knownH_zero (l : List Heap) : knownH l 0 = fun _ => none := knownM_zero _
theorem knownH_put (l : List Heap) (k : Nat) (h : k < l.length) : knownH l (k + 1) (.string l[k].name) = some (.bool true) := by
  have := knownM_put (asPlots l) k (by rw [asPlots_len]; exact h)
  rw [asPlots_name h] at this; exact this
theorem knownH_other (l : List Heap) (k : Nat) (h : k < l.length) (x : Value) (hx : x ≠ .string l[k].name) : knownH l (k + 1) x = knownH l k x :=
  knownM_other (asPlots l) k (by rw [asPlots_len]; exact h) x (by rw [asPlots_name h]; exact hx)
theorem hasH_new {l : List Heap} {k : Nat} (h : k < l.length) : heapNew l k = !hasH l k l[k].name := by
  unfold heapNew hasH hasName asPlots
  rw [getD_lt _ h, ← List.map_take, List.any_map, List.not_any_eq_all_not]
  congr 1; funext x; simp
theorem heapAt_eq {pl : List Plot} {l : List Heap} {k : Nat} (h : k < l.length) : heapAt pl l k = (!hasH l k l[k].name && heapB pl l[k]) := by
  unfold heapAt; rw [hasH_new h, getD_lt _ h]

theorem made_cnt (n : Nat) : madeCells #[.int .i64 0] n = cntRow n (fun _ => 0) := by
  apply Array.toList_inj.1
  rw [toList_madeCells_one]
  unfold cntRow
  apply List.ext_getElem?
  intro j
  by_cases hj : j < n
  · simp [hj]
  · simp [hj]
end Go.Proofs.Ytpgkhlpepckfgaa
