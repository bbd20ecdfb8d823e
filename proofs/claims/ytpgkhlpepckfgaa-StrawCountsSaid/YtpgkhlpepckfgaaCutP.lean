/-
  The first loads of parts, one by one, and then those of the rest: plain.
-/
import Derived.Test.YtpgkhlpepckfgaaSWalk
namespace Go.Proofs.Ytpgkhlpepckfgaa
open Go.RowKit Go.Lib

/-- What one part yields, when r loads are still wanted. -/
def stepP (p : Portion) (r : Int) : List (Bool × Portion) :=
  (if 0 < min r p.loads then [(true, ⟨p.plot, min r p.loads⟩)] else []) ++ (if min r p.loads < p.loads then [(false, ⟨p.plot, p.loads - min r p.loads⟩)] else [])
def takenL : List Portion → Int → List (Bool × Portion)
  | [], _ => []
  | p :: l, r => stepP p r ++ takenL l (r - min r p.loads)
def remL : List Portion → Int → Int
  | [], r => r
  | p :: l, r => remL l (r - min r p.loads)
theorem remL_snoc (p : Portion) : ∀ (l : List Portion) (r : Int), remL (l ++ [p]) r = remL l r - min (remL l r) p.loads
  | [], r => rfl
  | q :: l, r => by simp only [List.cons_append, remL]; exact remL_snoc p l _
theorem takenL_snoc (p : Portion) : ∀ (l : List Portion) (r : Int), takenL (l ++ [p]) r = takenL l r ++ stepP p (remL l r)
  | [], r => by simp [takenL, remL]
  | q :: l, r => by simp only [List.cons_append, takenL, remL]; rw [takenL_snoc p l, List.append_assoc]
theorem stepP_len (p : Portion) (r : Int) : (stepP p r).length ≤ 2 := by unfold stepP; split <;> split <;> simp
theorem takenL_len : ∀ (l : List Portion) (r : Int), (takenL l r).length ≤ 2 * l.length
  | [], _ => by simp [takenL]
  | p :: l, r => by
    have := takenL_len l (r - min r p.loads)
    have := stepP_len p r
    simp only [takenL, List.length_append, List.length_cons]; omega
theorem remL_bounds : ∀ (l : List Portion) (r : Int), (∀ p ∈ l, 0 ≤ p.loads ∧ p.loads ≤ 100000) → 0 ≤ r → 0 ≤ remL l r ∧ remL l r ≤ r
  | [], r, _, h0 => ⟨h0, Int.le_refl _⟩
  | p :: l, r, h, h0 => by
    have hp := h p (by simp)
    have := remL_bounds l (r - min r p.loads) (fun q hq => h q (by simp [hq])) (by omega)
    simp only [remL]
    omega
/-- What is taken of parts, and what is left. -/
def firstL (l : List (Bool × Portion)) : List Portion := (l.filter (·.1)).map (·.2)
def restL (l : List (Bool × Portion)) : List Portion := (l.filter (!·.1)).map (·.2)
def cutF (l : List Portion) (n : Int) : List Portion := firstL (takenL l n)
def cutR (l : List Portion) (n : Int) : List Portion := restL (takenL l n)
theorem firstL_snoc (l : List (Bool × Portion)) (x : Bool × Portion) : firstL (l ++ [x]) = firstL l ++ (if x.1 then [x.2] else []) := by
  unfold firstL; cases h : x.1 <;> simp [List.filter_append, h]
theorem restL_snoc (l : List (Bool × Portion)) (x : Bool × Portion) : restL (l ++ [x]) = restL l ++ (if x.1 then [] else [x.2]) := by
  unfold restL; cases h : x.1 <;> simp [List.filter_append, h]
def encTaken (x : Bool × Portion) : Array Value := #[.bool x.1, .agg #[.int .i64 x.2.plot, .int .i64 x.2.loads]]
end Go.Proofs.Ytpgkhlpepckfgaa
