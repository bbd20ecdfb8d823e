/-
  Both ways of looking at all choices find one and the same. Plain lists and numbers.
-/
import Derived.Test.YtpgkhlpepckfgaaCRefP
namespace Go.Proofs.Ytpgkhlpepckfgaa
open Go.RowKit Go.Lib

/-- b is the best one of a list of choices. -/
def IsBest (pl : List Plot) (n : Need) (L : List (List Int)) (b : Best) : Prop :=
  (b.found = false → b = ⟨false, 0, []⟩ ∧ ∀ s ∈ L, enoughB pl n s = false) ∧
  (b.found = true → b.choice ∈ L ∧ enoughB pl n b.choice = true ∧ b.cost = costOf pl b.choice ∧ ∀ s ∈ L, enoughB pl n s = true → ¬ cmp3 (costOf pl s) s b.cost b.choice < 0)

theorem isBest_nil (pl : List Plot) (n : Need) : IsBest pl n [] ⟨false, 0, []⟩ := ⟨fun _ => ⟨rfl, by simp⟩, fun h => by cases h⟩
theorem cmp3_irrefl (c : Int) (s : List Int) : ¬ cmp3 c s c s < 0 := by
  have := cmp3_swap c s c s
  omega
theorem isBest_step {pl : List Plot} {n : Need} {L : List (List Int)} {b : Best} (h : IsBest pl n L b) (s : List Int) : IsBest pl n (L ++ [s]) (stepC pl n b s) := by
  unfold stepC
  by_cases hs : enoughB pl n s = true ∧ (b.found = false ∨ cmp3 (costOf pl s) s b.cost b.choice < 0)
  · rw [if_pos hs]
    refine ⟨fun e => (by cases e), fun _ => ⟨by simp, hs.1, rfl, fun t ht he hlt => ?_⟩⟩
    simp only [List.mem_append, List.mem_singleton] at ht
    rcases ht with ht | rfl
    · rcases hs.2 with hf | hlt2
      · rw [(h.1 hf).2 t ht] at he; cases he
      · by_cases hf : b.found = false
        · rw [(h.1 hf).2 t ht] at he; cases he
        · exact (h.2 (by simpa using hf)).2.2.2 t ht he (cmp3_trans hlt hlt2)
    · exact cmp3_irrefl _ _ hlt
  · rw [if_neg hs]
    refine ⟨fun hf => ⟨(h.1 hf).1, fun t ht => ?_⟩, fun hf => ?_⟩
    · simp only [List.mem_append, List.mem_singleton] at ht
      rcases ht with ht | rfl
      · exact (h.1 hf).2 t ht
      · by_cases he : enoughB pl n t = true
        · exact absurd ⟨he, .inl hf⟩ hs
        · simpa using he
    · obtain ⟨a1, a2, a3, a4⟩ := h.2 hf
      refine ⟨by simp [a1], a2, a3, fun t ht he hlt => ?_⟩
      simp only [List.mem_append, List.mem_singleton] at ht
      rcases ht with ht | rfl
      · exact a4 t ht he hlt
      · exact hs ⟨he, .inr hlt⟩
theorem isBest_fold {pl : List Plot} {n : Need} : ∀ (L : List (List Int)) {L0 : List (List Int)} {b : Best}, IsBest pl n L0 b → IsBest pl n (L0 ++ L) (L.foldl (stepC pl n) b)
  | [], _, _, h => by simpa using h
  | s :: L, L0, b, h => by
    have := isBest_fold L (isBest_step h s)
    rw [List.append_assoc] at this
    exact this
theorem isBest_unique {pl : List Plot} {n : Need} {L M : List (List Int)} {b c : Best} (hb : IsBest pl n L b) (hc : IsBest pl n M c) (hm : ∀ s, s ∈ L ↔ s ∈ M) : b = c := by
  cases hf : b.found with
  | false =>
    obtain ⟨e1, e2⟩ := hb.1 hf
    cases hg : c.found with
    | false => rw [e1, (hc.1 hg).1]
    | true =>
      obtain ⟨a1, a2, _⟩ := hc.2 hg
      rw [e2 _ ((hm _).2 a1)] at a2; cases a2
  | true =>
    obtain ⟨a1, a2, a3, a4⟩ := hb.2 hf
    cases hg : c.found with
    | false => rw [(hc.1 hg).2 _ ((hm _).1 a1)] at a2; cases a2
    | true =>
      obtain ⟨b1, b2, b3, b4⟩ := hc.2 hg
      have h1 := b4 _ ((hm _).1 a1) a2
      have h2 := a4 _ ((hm _).2 b1) b2
      rw [← a3] at h1
      rw [← b3] at h2
      have h3 := cmp3_swap b.cost b.choice c.cost c.choice
      have h0 : cmp3 b.cost b.choice c.cost c.choice = 0 := by omega
      obtain ⟨z1, z2⟩ := cmp3_zero h0
      cases b; cases c; simp_all

/-- The fields of a set of bits. -/
def pick (n set : Nat) : List Int := ((List.range n).filter fun i => set.testBit i).map fun (i : Nat) => (i : Int)
def fields (i k : Nat) : List Int := (List.range' i k).map fun (j : Nat) => (j : Int)

theorem mem_leaves : ∀ (k i : Nat) (s t : List Int), t ∈ leaves k i s ↔ ∃ u, u.Sublist (fields i k) ∧ t = s ++ u
  | 0, i, s, t => by
    constructor
    · intro h
      simp [leaves] at h
      exact ⟨[], by simp [fields], by simp [h]⟩
    · rintro ⟨u, hu, rfl⟩
      simp [fields] at hu
      simp [leaves, hu]
  | k + 1, i, s, t => by
    have hc : ((i : Int) + 1) = ((i + 1 : Nat) : Int) := by omega
    have hf : fields i (k + 1) = (i : Int) :: fields (i + 1) k := by simp [fields, List.range'_succ]
    rw [leaves, List.mem_append, hc, mem_leaves k (i + 1), mem_leaves k (i + 1), hf]
    constructor
    · rintro (⟨u, hu, rfl⟩ | ⟨u, hu, rfl⟩)
      · exact ⟨(i : Int) :: u, hu.cons_cons _, by simp⟩
      · exact ⟨u, hu.cons _, rfl⟩
    · rintro ⟨u, hu, rfl⟩
      rcases List.sublist_cons_iff.1 hu with h | ⟨r, rfl, h⟩
      · exact .inr ⟨u, h, rfl⟩
      · exact .inl ⟨r, h, by simp⟩

theorem fields_range (n : Nat) : fields 0 n = (List.range n).map fun (j : Nat) => (j : Int) := by rw [fields, List.range_eq_range']
theorem pick_sublist (n set : Nat) : (pick n set).Sublist (fields 0 n) := by
  rw [fields_range]
  exact List.filter_sublist.map _
theorem pick_succ (n set : Nat) : pick (n + 1) set = pick n set ++ if set.testBit n then [(n : Int)] else [] := by
  unfold pick
  rw [List.range_succ, List.filter_append, List.map_append]
  congr 1
  by_cases h : set.testBit n <;> simp [h]
theorem pick_congr {n a b : Nat} (h : ∀ i, i < n → a.testBit i = b.testBit i) : pick n a = pick n b := by
  unfold pick
  congr 1
  apply List.filter_congr
  intro i hi
  exact h i (List.mem_range.1 hi)
theorem pick_all : ∀ (n : Nat) (t : List Int), t.Sublist (fields 0 n) → ∃ set, set < 2 ^ n ∧ pick n set = t
  | 0, t, h => by
    simp [fields] at h
    exact ⟨0, by simp, by simp [pick, h]⟩
  | n + 1, t, h => by
    rw [fields_range, List.range_succ, List.map_append, List.map_singleton, ← fields_range] at h
    obtain ⟨t1, t2, rfl, h1, h2⟩ := List.sublist_append_iff.1 h
    obtain ⟨set, hs, hp⟩ := pick_all n t1 h1
    have h2' : t2 = [] ∨ t2 = [(n : Int)] := by
      rcases List.sublist_cons_iff.1 h2 with h3 | ⟨r, rfl, h3⟩
      · exact .inl (List.sublist_nil.1 h3)
      · exact .inr (by rw [List.sublist_nil.1 h3])
    rcases h2' with rfl | rfl
    · refine ⟨set, by rw [Nat.pow_succ]; omega, ?_⟩
      rw [pick_succ, Nat.testBit_lt_two_pow hs, hp]
      simp
    · refine ⟨set ||| 2 ^ n, Nat.or_lt_two_pow (by rw [Nat.pow_succ]; omega) (by rw [Nat.pow_succ]; have := Nat.two_pow_pos n; omega), ?_⟩
      rw [pick_succ]
      have e1 : (set ||| 2 ^ n).testBit n = true := by simp
      rw [e1, if_pos rfl, pick_congr (b := set) (fun i hi => by rw [Nat.testBit_or, Nat.testBit_two_pow]; simp; omega), hp]

/-- All choices by their sets of bits, up to a set. -/
def picks (n m : Nat) : List (List Int) := (List.range m).map (pick n)
theorem picks_succ (n m : Nat) : picks n (m + 1) = picks n m ++ [pick n m] := by rw [picks, List.range_succ, List.map_append]; rfl
def refC (pl : List Plot) (n : Need) (m : Nat) : Best := (picks pl.length m).foldl (stepC pl n) ⟨false, 0, []⟩
theorem refC_succ (pl : List Plot) (n : Need) (m : Nat) : refC pl n (m + 1) = stepC pl n (refC pl n m) (pick pl.length m) := by
  rw [refC, picks_succ, List.foldl_append]; rfl

/-- THE TWO ARE ONE. -/
theorem choose_one (pl : List Plot) (n : Need) : walkP pl 0 0 n [] ⟨false, 0, []⟩ = refC pl n (2 ^ pl.length) := by
  have h := walkP_fold pl n pl 0 [] ⟨false, 0, []⟩ (by simp) (Nat.zero_le _)
  have h0 : costOf pl [] = 0 := rfl
  have h1 : needAfter pl n [] = n := rfl
  rw [h0, h1] at h
  rw [show ((0 : Nat) : Int) = 0 from rfl] at h
  rw [h]
  refine isBest_unique (isBest_fold (leaves pl.length 0 []) (isBest_nil pl n)) (isBest_fold (picks pl.length (2 ^ pl.length)) (isBest_nil pl n)) fun s => ?_
  rw [List.nil_append, List.nil_append]
  have hm := mem_leaves pl.length 0 [] s
  rw [show ((0 : Nat) : Int) = 0 from rfl] at hm
  rw [hm]
  unfold picks
  rw [List.mem_map]
  constructor
  · rintro ⟨u, hu, e⟩
    obtain ⟨set, hs, hp⟩ := pick_all pl.length u hu
    exact ⟨set, List.mem_range.2 hs, by rw [hp, e]; rfl⟩
  · rintro ⟨set, hs, rfl⟩
    exact ⟨_, pick_sublist _ _, rfl⟩
end Go.Proofs.Ytpgkhlpepckfgaa
