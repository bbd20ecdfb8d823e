/-
  What is known of the best choice. Plain lists and numbers.
-/
import Derived.Test.YtpgkhlpepckfgaaGiven
namespace Go.Proofs.Ytpgkhlpepckfgaa
open Go.RowKit Go.Lib

theorem needAfter_parts (pl : List Plot) (n : Need) (s : List Int) : (needAfter pl n s).reed = n.reed + (needAfter pl ⟨0, 0, 0⟩ s).reed ∧ (needAfter pl n s).straw = n.straw + (needAfter pl ⟨0, 0, 0⟩ s).straw ∧ (needAfter pl n s).heather = n.heather + (needAfter pl ⟨0, 0, 0⟩ s).heather := by
  have h := needAfter_shift pl n s ⟨0, 0, 0⟩
  simp only [Int.add_zero] at h
  have h' : needAfter pl n s = ⟨n.reed + (needAfter pl ⟨0, 0, 0⟩ s).reed, n.straw + (needAfter pl ⟨0, 0, 0⟩ s).straw, n.heather + (needAfter pl ⟨0, 0, 0⟩ s).heather⟩ := h
  rw [h']
  exact ⟨rfl, rfl, rfl⟩

def NeedLe (a b : Need) : Prop := a.reed ≤ b.reed ∧ a.straw ≤ b.straw ∧ a.heather ≤ b.heather
theorem needAfter_mono {pl : List Plot} {a b : Need} (h : NeedLe a b) (s : List Int) : NeedLe (needAfter pl a s) (needAfter pl b s) := by
  obtain ⟨a1, a2, a3⟩ := needAfter_parts pl a s
  obtain ⟨b1, b2, b3⟩ := needAfter_parts pl b s
  obtain ⟨h1, h2, h3⟩ := h
  exact ⟨by omega, by omega, by omega⟩
theorem subAt_le {pl : List Plot} (hok : ∀ p ∈ pl, plotOk p = true) (n : Need) {i : Int} (h0 : 0 ≤ i) (h1 : i < (pl.length : Int)) : NeedLe (subAt pl n i) n := by
  obtain ⟨_, k2, k3, k4, k5, k6, _⟩ := plotOk_bounds (plotAt_ok hok h0 h1)
  have hm := (prod_bounds k2 k3 k4 (by omega)).1
  unfold subAt needSub NeedLe
  split <;> (try split) <;> simp <;> omega
theorem needAfter_sub {pl : List Plot} (hok : ∀ p ∈ pl, plotOk p = true) : ∀ {s t : List Int}, s.Sublist t → InFields pl t → ∀ n, NeedLe (needAfter pl n t) (needAfter pl n s) := by
  intro s t h
  induction h with
  | slnil => intro _ n; exact ⟨Int.le_refl _, Int.le_refl _, Int.le_refl _⟩
  | @cons l1 l2 a _ ih =>
    intro hin n
    obtain ⟨h0, h1⟩ := hin a (by simp)
    obtain ⟨x1, x2, x3⟩ := ih (fun i hi => hin i (by simp [hi])) (subAt pl n a)
    obtain ⟨y1, y2, y3⟩ := needAfter_mono (pl := pl) (subAt_le hok n h0 h1) l1
    simp only [needAfter, List.foldl_cons] at *
    exact ⟨by omega, by omega, by omega⟩
  | cons_cons a _ ih =>
    intro hin n
    have := ih (fun i hi => hin i (by simp [hi])) (subAt pl n a)
    simpa [needAfter] using this
theorem needMax_le {a : Need} : needMax a ≤ 0 ↔ a.reed ≤ 0 ∧ a.straw ≤ 0 ∧ a.heather ≤ 0 := by
  unfold needMax
  constructor
  · intro h; split at h <;> split at h <;> omega
  · intro h; split <;> split <;> omega
theorem enough_of_le {pl : List Plot} {n m : Need} {s t : List Int} (h : NeedLe (needAfter pl m t) (needAfter pl n s)) (he : enoughB pl n s = true) : enoughB pl m t = true := by
  unfold enoughB at he ⊢
  rw [decide_eq_true_eq, needMax_le] at he ⊢
  obtain ⟨h1, h2, h3⟩ := h
  omega
theorem cmp3_of_lt {c d : Int} {s t : List Int} (h : c < d) : cmp3 c s d t < 0 := by
  rw [cmp3, orL3]
  have := compareInt_neg.2 h
  rw [if_neg (by omega)]
  exact this

theorem mem_picks {n : Nat} {s : List Int} (h : s.Sublist (fields 0 n)) : s ∈ picks n (2 ^ n) := by
  obtain ⟨set, h1, h2⟩ := pick_all n s h
  exact List.mem_map.2 ⟨set, List.mem_range.2 h1, h2⟩
theorem picks_sub {n m : Nat} {s : List Int} (h : s ∈ picks n m) : s.Sublist (fields 0 n) := by
  obtain ⟨set, _, rfl⟩ := List.mem_map.1 h
  exact pick_sublist n set
theorem best_is (pl : List Plot) (n : Need) : IsBest pl n (picks pl.length (2 ^ pl.length)) (walkP pl 0 0 n [] ⟨false, 0, []⟩) := by
  rw [choose_one]
  have := isBest_fold (pl := pl) (n := n) (picks pl.length (2 ^ pl.length)) (isBest_nil pl n)
  simpa [refC] using this

/-- What the law asks of the best choice. -/
structure LeastOk (pl : List Plot) (n : Need) (b : Best) : Prop where
  whole : b.found = enoughB pl n (fields 0 pl.length)
  none : b.found = false → b.choice = [] ∧ b.cost = 0
  sub : b.choice.Sublist (fields 0 pl.length)
  enough : b.found = true → enoughB pl n b.choice = true
  cost : b.cost = costOf pl b.choice
  least : b.found = true → ∀ s : List Int, s.Sublist (fields 0 pl.length) → enoughB pl n s = true → b.cost ≤ costOf pl s
theorem least_ok {pl : List Plot} (n : Need) (hok : ∀ p ∈ pl, plotOk p = true) : LeastOk pl n (walkP pl 0 0 n [] ⟨false, 0, []⟩) := by
  have h := best_is pl n
  generalize walkP pl 0 0 n [] ⟨false, 0, []⟩ = b at *
  cases hf : b.found with
  | false =>
    obtain ⟨e, h1⟩ := h.1 hf
    subst e
    exact ⟨(h1 _ (mem_picks (List.Sublist.refl _))).symm, fun _ => ⟨rfl, rfl⟩, List.nil_sublist _, fun e => (by cases e), rfl, fun e => (by cases e)⟩
  | true =>
    obtain ⟨a1, a2, a3, a4⟩ := h.2 hf
    have hs := picks_sub a1
    refine ⟨?_, fun e => (by rw [hf] at e; cases e), hs, fun _ => a2, a3, fun _ s h1 h2 => ?_⟩
    · rw [hf]
      exact (enough_of_le (needAfter_sub hok hs (fun i hi => fields_in _ i hi) n) a2).symm
    · have := a4 s (mem_picks h1) h2
      by_cases hlt : costOf pl s < b.cost
      · exact absurd (cmp3_of_lt hlt) this
      · omega
/-- With lesser needs no choice costs more. -/
theorem least_less {pl : List Plot} {n m : Need} (hle : NeedLe m n) (hok : ∀ p ∈ pl, plotOk p = true) (hf : (walkP pl 0 0 n [] ⟨false, 0, []⟩).found = true) : (walkP pl 0 0 m [] ⟨false, 0, []⟩).found = true ∧ (walkP pl 0 0 m [] ⟨false, 0, []⟩).cost ≤ (walkP pl 0 0 n [] ⟨false, 0, []⟩).cost := by
  have h := least_ok n hok
  have g := least_ok m hok
  have he := enough_of_le (needAfter_mono hle (walkP pl 0 0 n [] ⟨false, 0, []⟩).choice) (h.enough hf)
  have hw : (walkP pl 0 0 m [] ⟨false, 0, []⟩).found = true := by
    rw [g.whole]
    exact enough_of_le (needAfter_sub hok h.sub (fun i hi => fields_in _ i hi) m) he
  refine ⟨hw, ?_⟩
  rw [h.cost]
  exact g.least hw _ h.sub he
end Go.Proofs.Ytpgkhlpepckfgaa
