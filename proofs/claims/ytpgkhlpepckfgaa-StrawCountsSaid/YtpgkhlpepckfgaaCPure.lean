/-
  The cheapest choice: what the program's walk over all choices comes to, over plain data.
-/
import Derived.Test.YtpgkhlpepckfgaaSPure
import Derived.Test.YtpgkhlpepckfgaaInts
namespace Go.Proofs.Ytpgkhlpepckfgaa
open Go.RowKit Go.Lib

structure Need where
  reed : Int
  straw : Int
  heather : Int
structure Best where
  found : Bool
  cost : Int
  choice : List Int

def needGet (n : Need) (c : Int) : Int := if c = 1 then n.reed else if c = 2 then n.straw else n.heather
def needSub (n : Need) (c x : Int) : Need := if c = 1 then { n with reed := n.reed - x } else if c = 2 then { n with straw := n.straw - x } else { n with heather := n.heather - x }
def needMax (n : Need) : Int := if (if n.reed < n.straw then n.straw else n.reed) < n.heather then n.heather else if n.reed < n.straw then n.straw else n.reed
def better (paid : Int) (l : List Int) (b : Best) : Int := orL [compareInt paid b.cost, compareInt l.length b.choice.length, cmpL l b.choice]
def leafP (paid : Int) (n : Need) (l : List Int) (b : Best) : Best :=
  if 0 < needMax n then b else if b.found = false then ⟨true, paid, l⟩ else if better paid l b < 0 then ⟨true, paid, l⟩ else b
def walkP : List Plot → Int → Int → Need → List Int → Best → Best
  | [], _, paid, n, l, b => leafP paid n l b
  | p :: ps, i, paid, n, l, b =>
    walkP ps (i + 1) paid n l (walkP ps (i + 1) (paid + p.cost) (needSub n p.crop (p.size * p.yield.lo)) (l ++ [i]) b)

/-- The map of what is wanted yet. -/
def needM (n : Need) : Value → Option Value
  | .int .i64 c => if c = 1 then some (.int .i64 n.reed) else if c = 2 then some (.int .i64 n.straw) else if c = 3 then some (.int .i64 n.heather) else none
  | _ => none
theorem needM_get (n : Need) (c : Int) (h : cropB c = true) : (needM n (.int .i64 c)).getD (.int .i64 0) = .int .i64 (needGet n c) := by
  simp only [cropB, Bool.and_eq_true, decide_eq_true_eq] at h
  show (if c = 1 then some (Value.int .i64 n.reed) else if c = 2 then some (.int .i64 n.straw) else if c = 3 then some (.int .i64 n.heather) else none).getD (.int .i64 0) = _
  unfold needGet
  by_cases h1 : c = 1
  · simp [h1]
  · by_cases h2 : c = 2
    · simp [h2]
    · have h3 : c = 3 := by omega
      simp [h3]
theorem needM_put (n : Need) (c x : Int) (h : cropB c = true) : needM (needSub n c x) (.int .i64 c) = some (.int .i64 (needGet n c - x)) := by
  simp only [cropB, Bool.and_eq_true, decide_eq_true_eq] at h
  unfold needGet needSub
  by_cases h1 : c = 1
  · simp [h1, needM]
  · by_cases h2 : c = 2
    · simp [h2, needM]
    · have h3 : c = 3 := by omega
      simp [h3, needM]
theorem needM_other (n : Need) (c x : Int) (v : Value) (hv : v ≠ .int .i64 c) (h : cropB c = true) : needM (needSub n c x) v = needM n v := by
  simp only [cropB, Bool.and_eq_true, decide_eq_true_eq] at h
  unfold needM
  split
  · rename_i d
    have hd : d ≠ c := fun e => hv (by rw [e])
    unfold needSub
    by_cases h1 : c = 1
    · subst h1; simp [hd]
    · by_cases h2 : c = 2
      · subst h2; simp [hd]
      · have h3 : c = 3 := by omega
        subst h3; simp [hd]
  · rfl
theorem needGet_sub (n : Need) (c x : Int) : needGet (needSub n c x) c = needGet n c - x := by
  unfold needGet needSub
  by_cases h1 : c = 1
  · simp [h1]
  · by_cases h2 : c = 2
    · simp [h2]
    · simp [h1, h2]
theorem needSub_back (n : Need) (c x : Int) : needSub (needSub n c x) c (-x) = n := by
  unfold needSub
  by_cases h1 : c = 1
  · simp [h1]
  · by_cases h2 : c = 2
    · simp [h2]
    · simp [h1, h2]

def needM1 (n : Need) : Value → Option Value
  | .int .i64 c => if c = 1 then some (.int .i64 n.reed) else none
  | _ => none
def needM2 (n : Need) : Value → Option Value
  | .int .i64 c => if c = 1 then some (.int .i64 n.reed) else if c = 2 then some (.int .i64 n.straw) else none
  | _ => none
theorem needM1_other (n : Need) (v : Value) (hv : v ≠ .int .i64 1) : needM1 n v = none := by
  unfold needM1
  split
  · rename_i c
    exact if_neg (fun e => hv (by rw [e]))
  · rfl
theorem needM2_other (n : Need) (v : Value) (hv : v ≠ .int .i64 2) : needM2 n v = needM1 n v := by
  unfold needM2 needM1
  split
  · rename_i c
    have : ¬ c = 2 := fun e => hv (by rw [e])
    simp [this]
  · rfl
theorem needM3_other (n : Need) (v : Value) (hv : v ≠ .int .i64 3) : needM n v = needM2 n v := by
  unfold needM2 needM
  split
  · rename_i c
    have : ¬ c = 3 := fun e => hv (by rw [e])
    simp [this]
  · rfl

/-- Bounds on what is wanted. -/
def NeedIn (n : Need) (m : Int) : Prop := -m ≤ n.reed ∧ n.reed ≤ m ∧ -m ≤ n.straw ∧ n.straw ≤ m ∧ -m ≤ n.heather ∧ n.heather ≤ m
theorem NeedIn.get {n : Need} {m : Int} (h : NeedIn n m) (c : Int) : -m ≤ needGet n c ∧ needGet n c ≤ m := by
  obtain ⟨h1, h2, h3, h4, h5, h6⟩ := h
  unfold needGet; split <;> (try split) <;> omega
theorem NeedIn.sub {n : Need} {m : Int} (h : NeedIn n m) (c x : Int) (h0 : 0 ≤ x) : NeedIn (needSub n c x) (m + x) := by
  obtain ⟨h1, h2, h3, h4, h5, h6⟩ := h
  unfold needSub NeedIn; split <;> (try split) <;> simp only [] <;> omega

theorem NeedIn.mono {n : Need} {m m' : Int} (h : NeedIn n m) (hm : m ≤ m') : NeedIn n m' := by
  obtain ⟨h1, h2, h3, h4, h5, h6⟩ := h
  exact ⟨by omega, by omega, by omega, by omega, by omega, by omega⟩
theorem leafP_len {paid : Int} {n : Need} {l : List Int} {b : Best} {m : Nat} (h1 : l.length ≤ m) (h2 : b.choice.length ≤ m) : (leafP paid n l b).choice.length ≤ m := by
  unfold leafP
  split
  · exact h2
  · split
    · exact h1
    · split
      · exact h1
      · exact h2
theorem walkP_len {m : Nat} : ∀ (ps : List Plot) (i paid : Int) (n : Need) (l : List Int) (b : Best), l.length + ps.length ≤ m → b.choice.length ≤ m → (walkP ps i paid n l b).choice.length ≤ m
  | [], _, _, _, _, _, h1, h2 => leafP_len (by simpa using h1) h2
  | p :: ps, i, paid, n, l, b, h1, h2 => by
    rw [walkP]
    simp only [List.length_cons] at h1
    exact walkP_len ps _ _ _ _ _ (by omega) (walkP_len ps _ _ _ _ _ (by simp; omega) h2)
theorem plotOk_bounds {p : Plot} (h : plotOk p = true) : cropB p.crop = true ∧ 1 ≤ p.size ∧ p.size ≤ 100 ∧ 0 ≤ p.yield.lo ∧ p.yield.lo ≤ p.yield.hi ∧ p.yield.hi ≤ 1000 ∧ 1 ≤ p.rest ∧ p.rest ≤ 100 ∧ 0 ≤ p.wet.lo ∧ p.wet.lo ≤ p.wet.hi ∧ p.wet.hi ≤ 1000 ∧ 0 ≤ p.cost ∧ p.cost ≤ 1000000 := by
  simp only [plotOk, inB, spanB, Bool.and_eq_true, decide_eq_true_eq] at h
  obtain ⟨⟨⟨⟨⟨t1, t2, t3⟩, ⟨t4, t5⟩, t6⟩, t7, t8⟩, ⟨t9, t10⟩, t11⟩, t12, t13⟩ := h
  exact ⟨t1, t2, t3, t4, t5, t6, t7, t8, t9, t10, t11, t12, t13⟩
theorem prod_bounds {a b : Int} (h1 : 1 ≤ a) (h2 : a ≤ 100) (h3 : 0 ≤ b) (h4 : b ≤ 1000) : 0 ≤ a * b ∧ a * b ≤ 100000 :=
  ⟨Int.mul_nonneg (by omega) h3, Int.le_trans (Int.mul_le_mul h2 h4 h3 (by omega)) (by omega)⟩
end Go.Proofs.Ytpgkhlpepckfgaa
