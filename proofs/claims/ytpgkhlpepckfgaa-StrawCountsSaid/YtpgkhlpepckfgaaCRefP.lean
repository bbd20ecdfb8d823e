/-
  The cheapest choice as the specification has it, and why both are one. Plain lists and numbers.
-/
import Derived.Test.YtpgkhlpepckfgaaCPure
namespace Go.Proofs.Ytpgkhlpepckfgaa
open Go.RowKit Go.Lib

def plotAt (l : List Plot) (i : Int) : Plot := l.getD i.toNat default
def costOf (pl : List Plot) (s : List Int) : Int := (s.map fun i => (plotAt pl i).cost).sum
def subAt (pl : List Plot) (n : Need) (i : Int) : Need := needSub n (plotAt pl i).crop ((plotAt pl i).size * (plotAt pl i).yield.lo)
def needAfter (pl : List Plot) (n : Need) (s : List Int) : Need := s.foldl (subAt pl) n
def enoughB (pl : List Plot) (n : Need) (s : List Int) : Bool := decide (needMax (needAfter pl n s) ≤ 0)
theorem costOf_snoc (pl : List Plot) (s : List Int) (i : Int) : costOf pl (s ++ [i]) = costOf pl s + (plotAt pl i).cost := by simp [costOf, Int.add_comm]
theorem needAfter_snoc (pl : List Plot) (n : Need) (s : List Int) (i : Int) : needAfter pl n (s ++ [i]) = subAt pl (needAfter pl n s) i := by simp [needAfter]

/-- Which of two choices is the better one (below 0: the first). -/
def cmp3 (c : Int) (s : List Int) (d : Int) (t : List Int) : Int := orL [compareInt c d, compareInt s.length t.length, cmpL s t]

theorem compareInt_self (x : Int) : compareInt x x = 0 := by simp [compareInt]
theorem compareInt_zero {x y : Int} : compareInt x y = 0 ↔ x = y := by unfold compareInt; split <;> (try split) <;> constructor <;> intro h <;> omega
theorem compareInt_neg {x y : Int} : compareInt x y < 0 ↔ x < y := by unfold compareInt; split <;> (try split) <;> constructor <;> intro h <;> omega
theorem compareInt_swap (x y : Int) : compareInt y x = -compareInt x y := by unfold compareInt; split <;> split <;> (try split) <;> (try split) <;> omega

theorem cmpL_self : ∀ l : List Int, cmpL l l = 0
  | [] => rfl
  | x :: l => by rw [cmpL, if_pos (compareInt_self x), cmpL_self l]
theorem cmpL_zero : ∀ {l m : List Int}, cmpL l m = 0 → l = m
  | [], [], _ => rfl
  | [], _ :: _, h => by simp [cmpL] at h
  | _ :: _, [], h => by simp [cmpL] at h
  | x :: l, y :: m, h => by
    rw [cmpL] at h
    by_cases h0 : compareInt x y = 0
    · rw [if_pos h0] at h; rw [compareInt_zero.1 h0, cmpL_zero h]
    · rw [if_neg h0] at h; exact absurd h h0
theorem cmpL_swap : ∀ (l m : List Int), cmpL m l = -cmpL l m
  | [], [] => rfl
  | [], _ :: _ => rfl
  | _ :: _, [] => rfl
  | x :: l, y :: m => by
    rw [cmpL, cmpL, compareInt_swap x y, cmpL_swap l m]
    by_cases h0 : compareInt x y = 0
    · rw [if_pos h0, if_pos (by omega)]
    · rw [if_neg h0, if_neg (by omega)]
theorem cmpL_trans : ∀ {l m k : List Int}, cmpL l m < 0 → cmpL m k < 0 → cmpL l k < 0
  | [], m, [], h1, h2 => by
    cases m with
    | nil => exact h1
    | cons y m => simp [cmpL] at h2
  | [], _, _ :: _, _, _ => by simp [cmpL]
  | x :: l, [], _, h1, _ => by simp [cmpL] at h1
  | x :: l, y :: m, [], _, h2 => by simp [cmpL] at h2
  | x :: l, y :: m, z :: k, h1, h2 => by
    rw [cmpL] at h1 h2 ⊢
    by_cases a : compareInt x y = 0
    · rw [if_pos a] at h1
      have := compareInt_zero.1 a
      subst this
      by_cases b : compareInt x z = 0
      · rw [if_pos b] at h2 ⊢; exact cmpL_trans h1 h2
      · rw [if_neg b] at h2 ⊢; exact h2
    · rw [if_neg a] at h1
      have hxy := compareInt_neg.1 h1
      have hyz : y ≤ z := by
        by_cases b : compareInt y z = 0
        · exact Int.le_of_eq (compareInt_zero.1 b)
        · rw [if_neg b] at h2; exact Int.le_of_lt (compareInt_neg.1 h2)
      rw [if_neg (fun e => by have := compareInt_zero.1 e; omega)]
      exact compareInt_neg.2 (by omega)

theorem orL3 (a b c : Int) : orL [a, b, c] = if a = 0 then (if b = 0 then c else b) else a := by
  simp only [orL]
  by_cases ha : a = 0 <;> by_cases hb : b = 0 <;> by_cases hc : c = 0 <;> simp [ha, hb, hc]
theorem cmp3_zero {c d : Int} {s t : List Int} (h : cmp3 c s d t = 0) : c = d ∧ s = t := by
  rw [cmp3, orL3] at h
  by_cases a : compareInt c d = 0
  · rw [if_pos a] at h
    by_cases b : compareInt (s.length : Int) t.length = 0
    · rw [if_pos b] at h; exact ⟨compareInt_zero.1 a, cmpL_zero h⟩
    · rw [if_neg b] at h; exact absurd h b
  · rw [if_neg a] at h; exact absurd h a
theorem cmp3_swap (c : Int) (s : List Int) (d : Int) (t : List Int) : cmp3 d t c s = -cmp3 c s d t := by
  rw [cmp3, cmp3, orL3, orL3, compareInt_swap c d, compareInt_swap (s.length : Int) t.length, cmpL_swap s t]
  by_cases a : compareInt c d = 0 <;> by_cases b : compareInt (s.length : Int) t.length = 0 <;> simp [a, b]
theorem cmp3_trans {c d e : Int} {s t u : List Int} (h1 : cmp3 c s d t < 0) (h2 : cmp3 d t e u < 0) : cmp3 c s e u < 0 := by
  rw [cmp3, orL3] at h1 h2 ⊢
  by_cases a : compareInt c d = 0
  · have := compareInt_zero.1 a
    subst this
    rw [if_pos a] at h1
    by_cases a2 : compareInt c e = 0
    · rw [if_pos a2] at h2 ⊢
      by_cases b : compareInt (s.length : Int) t.length = 0
      · have hb := compareInt_zero.1 b
        rw [if_pos b] at h1
        by_cases b2 : compareInt (t.length : Int) u.length = 0
        · rw [if_pos b2] at h2
          rw [if_pos (compareInt_zero.2 (by have := compareInt_zero.1 b2; omega))]
          exact cmpL_trans h1 h2
        · rw [if_neg b2] at h2
          have := compareInt_neg.1 h2
          rw [if_neg (fun e => by have := compareInt_zero.1 e; omega)]
          exact compareInt_neg.2 (by omega)
      · rw [if_neg b] at h1
        have hlt := compareInt_neg.1 h1
        have hle : (t.length : Int) ≤ u.length := by
          by_cases b2 : compareInt (t.length : Int) u.length = 0
          · exact Int.le_of_eq (compareInt_zero.1 b2)
          · rw [if_neg b2] at h2; exact Int.le_of_lt (compareInt_neg.1 h2)
        rw [if_neg (fun e => by have := compareInt_zero.1 e; omega)]
        exact compareInt_neg.2 (by omega)
    · rw [if_neg a2] at h2 ⊢; exact h2
  · rw [if_neg a] at h1
    have hlt := compareInt_neg.1 h1
    have hle : d ≤ e := by
      by_cases a2 : compareInt d e = 0
      · exact Int.le_of_eq (compareInt_zero.1 a2)
      · rw [if_neg a2] at h2; exact Int.le_of_lt (compareInt_neg.1 h2)
    rw [if_neg (fun e => by have := compareInt_zero.1 e; omega)]
    exact compareInt_neg.2 (by omega)

/-- One choice is looked at. -/
def stepC (pl : List Plot) (n : Need) (b : Best) (s : List Int) : Best :=
  if enoughB pl n s = true ∧ (b.found = false ∨ cmp3 (costOf pl s) s b.cost b.choice < 0) then ⟨true, costOf pl s, s⟩ else b
theorem leafP_step (pl : List Plot) (n : Need) (s : List Int) (b : Best) : leafP (costOf pl s) (needAfter pl n s) s b = stepC pl n b s := by
  unfold leafP stepC enoughB better cmp3
  by_cases h : 0 < needMax (needAfter pl n s)
  · rw [if_pos h, if_neg (by simp; intro h2; omega)]
  · rw [if_neg h]
    have h2 : needMax (needAfter pl n s) ≤ 0 := by omega
    by_cases hf : b.found = false
    · rw [if_pos hf, if_pos (by simp [h2, hf])]
    · rw [if_neg hf]
      by_cases hb : orL [compareInt (costOf pl s) b.cost, compareInt (s.length : Int) b.choice.length, cmpL s b.choice] < 0
      · rw [if_pos hb, if_pos (by simp [h2, hb])]
      · rw [if_neg hb, if_neg (by simp [h2, hf]; omega)]

/-- All choices that begin with s, of the fields from i on, k of them. -/
def leaves : Nat → Int → List Int → List (List Int)
  | 0, _, s => [s]
  | k + 1, i, s => leaves k (i + 1) (s ++ [i]) ++ leaves k (i + 1) s
theorem walkP_fold (pl : List Plot) (n : Need) : ∀ (ps : List Plot) (i : Nat) (s : List Int) (b : Best), pl.drop i = ps → i ≤ pl.length →
    walkP ps i (costOf pl s) (needAfter pl n s) s b = (leaves ps.length i s).foldl (stepC pl n) b
  | [], i, s, b, _, _ => by rw [walkP, leafP_step]; rfl
  | p :: ps, i, s, b, hd, hi => by
    have hlt : i < pl.length := by have := congrArg List.length hd; simp at this; omega
    have hcons := List.drop_eq_getElem_cons hlt
    rw [hd] at hcons
    obtain ⟨rfl, hps⟩ := List.cons.inj hcons
    have hat : plotAt pl i = pl[i] := by unfold plotAt; rw [Int.toNat_natCast, getD_lt _ hlt]
    have hc : ((i : Int) + 1) = ((i + 1 : Nat) : Int) := by omega
    rw [walkP, List.length_cons, leaves, List.foldl_append]
    have h1 : costOf pl s + pl[i].cost = costOf pl (s ++ [(i : Int)]) := by rw [costOf_snoc, hat]
    have h2 : needSub (needAfter pl n s) pl[i].crop (pl[i].size * pl[i].yield.lo) = needAfter pl n (s ++ [(i : Int)]) := by rw [needAfter_snoc, subAt, hat]
    rw [h1, h2, hc, walkP_fold pl n ps (i + 1) _ b hps.symm hlt, walkP_fold pl n ps (i + 1) _ _ hps.symm hlt]
end Go.Proofs.Ytpgkhlpepckfgaa
