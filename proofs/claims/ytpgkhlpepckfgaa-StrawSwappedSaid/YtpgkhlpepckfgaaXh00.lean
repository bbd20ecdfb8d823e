/-
  Parts in order: what is taken of them, what is left, and what is put behind others. No program is walked here. A store that may be is one after each chore, too: plain facts. No program is walked here. A store that may be is one after each chore: the chores on heaps, and all. No program is walked here. The first store of a farm: straw.New, walked. What is returned beside an error; six cells of one block. The first store of a farm: straw.New, walked. Stores that are one but for where their lists lie are the same for SameStore. No program is walked here.
-/
import Derived.Test.YtpgkhlpepckfgaaXa15
import Derived.Test.YtpgkhlpepckfgaaXa17
import Derived.Test.YtpgkhlpepckfgaaXa23
import Derived.Test.YtpgkhlpepckfgaaXa26
set_option linter.all false
set_option linter.unusedVariables false
set_option linter.unusedSimpArgs false
section
namespace Go.Proofs.Ytpgkhlpepckfgaa
open Go.RowKit Go.Lib

/-- Neighbours are of two fields. -/
def Adj : List Portion → Prop
  | [] => True
  | p :: l => (∀ q, l.head? = some q → p.plot ≠ q.plot) ∧ Adj l
def Pos (l : List Portion) : Prop := ∀ p ∈ l, 1 ≤ p.loads
theorem Pos.tail {p : Portion} {l : List Portion} (h : Pos (p :: l)) : 1 ≤ p.loads ∧ Pos l := ⟨h p (by simp), fun q hq => h q (by simp [hq])⟩
theorem Pos.cons {p : Portion} {l : List Portion} (h1 : 1 ≤ p.loads) (h : Pos l) : Pos (p :: l) := fun q hq => by
  rcases List.mem_cons.1 hq with rfl | h2
  · exact h1
  · exact h q h2
theorem ofL_nil (k : Int) : ofL [] k = 0 := rfl
theorem sumL_nil : sumL [] = 0 := rfl
theorem ofL_cons (p : Portion) (l : List Portion) (k : Int) : ofL (p :: l) k = (if p.plot = k then p.loads else 0) + ofL l k := by simp [ofL]
theorem sumL_cons (p : Portion) (l : List Portion) : sumL (p :: l) = p.loads + sumL l := by simp [sumL]
theorem ofL_app (a b : List Portion) (k : Int) : ofL (a ++ b) k = ofL a k + ofL b k := by simp [ofL]
theorem sumL_app (a b : List Portion) : sumL (a ++ b) = sumL a + sumL b := by simp [sumL]
theorem Pos.sum {l : List Portion} (h : Pos l) : 0 ≤ sumL l := by
  induction l with
  | nil => simp [sumL]
  | cons p l ih => have := ih h.tail.2; have := h.tail.1; rw [sumL_cons]; omega
theorem Pos.len {l : List Portion} (h : Pos l) : (l.length : Int) ≤ sumL l := by
  induction l with
  | nil => simp [sumL]
  | cons p l ih => have := ih h.tail.2; have := h.tail.1; rw [sumL_cons, List.length_cons]; omega
theorem Pos.of {l : List Portion} (h : Pos l) (k : Int) : 0 ≤ ofL l k := by
  induction l with
  | nil => simp [ofL]
  | cons p l ih => have := ih h.tail.2; have := h.tail.1; rw [ofL_cons]; split <;> omega
theorem Pos.le {l : List Portion} (h : Pos l) : ∀ p ∈ l, p.loads ≤ sumL l := by
  induction l with
  | nil => simp
  | cons p l ih =>
    intro q hq
    have h0 := h.tail.2.sum; have h1 := h.tail.1
    rw [sumL_cons]
    rcases List.mem_cons.1 hq with rfl | h2
    · omega
    · have := ih h.tail.2 q h2; omega

theorem firstL_app (a b : List (Bool × Portion)) : firstL (a ++ b) = firstL a ++ firstL b := by simp [firstL]
theorem restL_app (a b : List (Bool × Portion)) : restL (a ++ b) = restL a ++ restL b := by simp [restL]
theorem cutF_cons (p : Portion) (l : List Portion) (n : Int) : cutF (p :: l) n = firstL (stepP p n) ++ cutF l (n - min n p.loads) := by unfold cutF; rw [takenL, firstL_app]
theorem cutR_cons (p : Portion) (l : List Portion) (n : Int) : cutR (p :: l) n = restL (stepP p n) ++ cutR l (n - min n p.loads) := by unfold cutR; rw [takenL, restL_app]
theorem firstL_step (p : Portion) (r : Int) : firstL (stepP p r) = if 0 < min r p.loads then [⟨p.plot, min r p.loads⟩] else [] := by unfold stepP; split <;> split <;> rfl
theorem restL_stepP (p : Portion) (r : Int) : restL (stepP p r) = if min r p.loads < p.loads then [⟨p.plot, p.loads - min r p.loads⟩] else [] := by unfold stepP; split <;> split <;> rfl
theorem cut_zero : ∀ {l : List Portion}, Pos l → cutF l 0 = [] ∧ cutR l 0 = l
  | [], _ => ⟨rfl, rfl⟩
  | p :: l, h => by
    obtain ⟨h1, h2⟩ := h.tail
    have e : min 0 p.loads = 0 := by omega
    rw [cutF_cons, cutR_cons, firstL_step, restL_stepP, e, if_neg (by omega), if_pos (by omega)]
    obtain ⟨i1, i2⟩ := cut_zero h2
    refine ⟨by simpa using i1, ?_⟩
    have : (0 : Int) - 0 = 0 := rfl
    rw [this, i2, Int.sub_zero]; rfl
theorem cut_cases {p : Portion} {l : List Portion} {n : Int} (hp : 1 ≤ p.loads) (hl : Pos l) (hn : 0 ≤ n) :
    (n = 0 ∧ cutF (p :: l) n = [] ∧ cutR (p :: l) n = p :: l) ∨ (0 < n ∧ n < p.loads ∧ cutF (p :: l) n = [⟨p.plot, n⟩] ∧ cutR (p :: l) n = ⟨p.plot, p.loads - n⟩ :: l) ∨
      (p.loads ≤ n ∧ cutF (p :: l) n = p :: cutF l (n - p.loads) ∧ cutR (p :: l) n = cutR l (n - p.loads)) := by
  by_cases h0 : n = 0
  · subst h0; exact .inl ⟨rfl, (cut_zero (Pos.cons hp hl)).1, (cut_zero (Pos.cons hp hl)).2⟩
  · by_cases h1 : n < p.loads
    · have e : min n p.loads = n := by omega
      refine .inr (.inl ⟨by omega, h1, ?_, ?_⟩)
      · rw [cutF_cons, firstL_step, e, if_pos (by omega), Int.sub_self, (cut_zero hl).1]; rfl
      · rw [cutR_cons, restL_stepP, e, if_pos h1, Int.sub_self, (cut_zero hl).2]; rfl
    · have e : min n p.loads = p.loads := by omega
      refine .inr (.inr ⟨by omega, ?_, ?_⟩)
      · rw [cutF_cons, firstL_step, e, if_pos (by omega)]; rfl
      · rw [cutR_cons, restL_stepP, e, if_neg (by omega)]; rfl
/-- What is taken and what is left. -/
structure Cut (l : List Portion) (n : Int) : Prop where
  posF : Pos (cutF l n)
  posR : Pos (cutR l n)
  of : ∀ k, ofL (cutF l n) k + ofL (cutR l n) k = ofL l k
  sumF : sumL (cutF l n) = min n (sumL l)
  sum : sumL (cutF l n) + sumL (cutR l n) = sumL l
  inF : ∀ p ∈ cutF l n, ∃ q ∈ l, q.plot = p.plot
  inR : ∀ p ∈ cutR l n, ∃ q ∈ l, q.plot = p.plot
  head : ∀ q, (cutF l n).head? = some q → ∃ r, l.head? = some r ∧ r.plot = q.plot
  adj : Adj l → Adj (cutF l n) ∧ Adj (cutR l n)
theorem Adj.tail {p : Portion} {l : List Portion} (h : Adj (p :: l)) : Adj l := h.2
theorem Adj.put {p q : Portion} {l : List Portion} (h : Adj (p :: l)) (e : q.plot = p.plot) : Adj (q :: l) := ⟨fun r hr => by rw [e]; exact h.1 r hr, h.2⟩
theorem cut_law : ∀ (l : List Portion) (n : Int), Pos l → 0 ≤ n → Cut l n
  | [], n, _, hn => by
    refine ⟨fun p hp => by simp [cutF, firstL, takenL] at hp, fun p hp => by simp [cutR, restL, takenL] at hp, fun k => rfl, ?_, rfl, fun p hp => by simp [cutF, firstL, takenL] at hp, fun p hp => by simp [cutR, restL, takenL] at hp, fun q hq => by simp [cutF, firstL, takenL] at hq, fun _ => ⟨trivial, trivial⟩⟩
    show (0 : Int) = min n 0
    omega
  | p :: l, n, hp, hn => by
    obtain ⟨h1, h2⟩ := hp.tail
    have hs := h2.sum
    rcases cut_cases h1 h2 hn with ⟨rfl, eF, eR⟩ | ⟨n0, n1, eF, eR⟩ | ⟨n0, eF, eR⟩
    · refine ⟨by rw [eF]; simp [Pos], by rw [eR]; exact hp, fun k => by rw [eF, eR, ofL_nil]; omega, by rw [eF, sumL_nil, sumL_cons]; omega, by rw [eF, eR, sumL_nil]; omega, by rw [eF]; simp, by rw [eR]; exact fun q hq => ⟨q, hq, rfl⟩, by rw [eF]; simp, fun ha => by rw [eF, eR]; exact ⟨trivial, ha⟩⟩
    · refine ⟨by rw [eF]; exact Pos.cons n0 (by simp [Pos]), by rw [eR]; exact Pos.cons (by dsimp only; omega) h2, fun k => ?_, ?_, ?_, ?_, ?_, ?_, fun ha => ?_⟩
      · rw [eF, eR, ofL_cons, ofL_cons, ofL_cons, ofL_nil]; dsimp only; split <;> omega
      · rw [eF, sumL_cons, sumL_cons, sumL_nil]; dsimp only; omega
      · rw [eF, eR, sumL_cons, sumL_cons, sumL_cons, sumL_nil]; dsimp only; omega
      · rw [eF]; intro q hq; rw [List.mem_singleton] at hq; subst hq; exact ⟨p, by simp, rfl⟩
      · rw [eR]; intro q hq
        rcases List.mem_cons.1 hq with rfl | h3
        · exact ⟨p, by simp, rfl⟩
        · exact ⟨q, by simp [h3], rfl⟩
      · rw [eF]; intro q hq; simp at hq; subst hq; exact ⟨p, rfl, rfl⟩
      · rw [eF, eR]; exact ⟨⟨by simp, trivial⟩, ha.put rfl⟩
    · have ih := cut_law l (n - p.loads) h2 (by omega)
      refine ⟨by rw [eF]; exact Pos.cons h1 ih.posF, by rw [eR]; exact ih.posR, fun k => ?_, ?_, ?_, ?_, ?_, ?_, fun ha => ?_⟩
      · have := ih.of k; rw [eF, eR, ofL_cons, ofL_cons]; omega
      · have := ih.sumF; rw [eF, sumL_cons, sumL_cons]; omega
      · have := ih.sum; rw [eF, eR, sumL_cons, sumL_cons]; omega
      · rw [eF]; intro q hq
        rcases List.mem_cons.1 hq with rfl | h3
        · exact ⟨q, by simp, rfl⟩
        · obtain ⟨r, hr, e⟩ := ih.inF q h3; exact ⟨r, by simp [hr], e⟩
      · rw [eR]; intro q hq; obtain ⟨r, hr, e⟩ := ih.inR q hq; exact ⟨r, by simp [hr], e⟩
      · rw [eF]; intro q hq; simp at hq; subst hq; exact ⟨p, rfl, rfl⟩
      · rw [eF, eR]
        obtain ⟨a1, a2⟩ := ih.adj ha.2
        refine ⟨⟨fun q hq => ?_, a1⟩, a2⟩
        obtain ⟨r, hr, e⟩ := ih.head q hq
        rw [← e]; exact ha.1 r hr

theorem add_nil (p : Portion) : addPart [] p = [p] := by simp [addPart]
theorem add_snoc (l : List Portion) (q p : Portion) : addPart (l ++ [q]) p = if q.plot = p.plot then l ++ [⟨q.plot, q.loads + p.loads⟩] else l ++ [q] ++ [p] := by
  have e : (l ++ [q]).getD ((l ++ [q]).length - 1) default = q := by simp [List.getD_eq_getElem?_getD]
  unfold addPart
  rw [e]
  by_cases h : q.plot = p.plot
  · rw [if_pos ⟨by simp, h⟩, if_pos h]
    have : (l ++ [q]).length - 1 = l.length := by simp
    rw [this, List.set_append_right _ _ (Nat.le_refl _)]
    simp
  · rw [if_neg (fun x => h x.2), if_neg h]
theorem adj_snoc : ∀ (l : List Portion) (p : Portion), Adj (l ++ [p]) ↔ Adj l ∧ ∀ q, l.getLast? = some q → q.plot ≠ p.plot
  | [], p => by simp [Adj]
  | [a], p => by simp [Adj]
  | a :: b :: l, p => by
    have ih := adj_snoc (b :: l) p
    have e : (a :: b :: l).getLast? = (b :: l).getLast? := by simp [List.getLast?_cons]
    show (_ ∧ Adj (b :: l ++ [p])) ↔ (_ ∧ Adj (b :: l)) ∧ _
    rw [e, ih]
    simp only [List.cons_append, List.head?_cons]
    constructor
    · rintro ⟨h1, h2, h3⟩; exact ⟨⟨h1, h2⟩, h3⟩
    · rintro ⟨⟨h1, h2⟩, h3⟩; exact ⟨h1, h2, h3⟩
structure Added (l more m : List Portion) : Prop where
  pos : Pos m
  of : ∀ k, ofL m k = ofL l k + ofL more k
  sum : sumL m = sumL l + sumL more
  ins : ∀ p ∈ m, (∃ q ∈ l, q.plot = p.plot) ∨ ∃ q ∈ more, q.plot = p.plot
  adj : Adj l → Adj m
  some : m = [] → l = [] ∧ more = []
theorem add_law {l : List Portion} {p : Portion} (hl : Pos l) (hp : 1 ≤ p.loads) : Added l [p] (addPart l p) := by
  rcases List.eq_nil_or_concat l with rfl | ⟨l0, q, rfl⟩
  · rw [add_nil]
    exact ⟨Pos.cons hp (by simp [Pos]), fun k => by rw [ofL_nil]; omega, by rw [sumL_nil]; omega, fun r hr => .inr ⟨r, hr, rfl⟩, fun _ => ⟨by simp, trivial⟩, by simp⟩
  · rw [List.concat_eq_append] at hl ⊢
    have hq : 1 ≤ q.loads := hl q (by simp)
    have h0 : Pos l0 := fun r hr => hl r (by simp [hr])
    rw [add_snoc]
    split
    case isTrue h =>
      refine ⟨fun r hr => ?_, fun k => ?_, ?_, fun r hr => ?_, fun ha => ?_, by simp⟩
      · rcases List.mem_append.1 hr with h1 | h1
        · exact h0 r h1
        · rw [List.mem_singleton] at h1; subst h1; dsimp only; omega
      · rw [ofL_app, ofL_app, ofL_cons, ofL_cons, ofL_cons, ofL_nil, ← h]; dsimp only; split <;> omega
      · rw [sumL_app, sumL_app, sumL_cons, sumL_cons, sumL_cons, sumL_nil]; dsimp only; omega
      · rcases List.mem_append.1 hr with h1 | h1
        · exact .inl ⟨r, by simp [h1], rfl⟩
        · rw [List.mem_singleton] at h1; subst h1; exact .inl ⟨q, by simp, rfl⟩
      · rw [adj_snoc] at ha ⊢; exact ha
    case isFalse h =>
      refine ⟨fun r hr => ?_, fun k => ofL_app _ _ _, sumL_app _ _, fun r hr => ?_, fun ha => ?_, by simp⟩
      · rcases List.mem_append.1 hr with h1 | h1
        · exact hl r h1
        · rw [List.mem_singleton] at h1; subst h1; exact hp
      · rcases List.mem_append.1 hr with h1 | h1
        · exact .inl ⟨r, h1, rfl⟩
        · exact .inr ⟨r, h1, rfl⟩
      · rw [adj_snoc]; exact ⟨ha, fun r hr => by simp at hr; subst hr; exact h⟩
theorem behind_law : ∀ (more : List Portion) {l : List Portion}, Pos l → Pos more → Added l more (behindP l more)
  | [], l, hl, _ => ⟨hl, fun k => by rw [behindP_nil, ofL_nil]; omega, by rw [behindP_nil, sumL_nil]; omega, fun p hp => .inl ⟨p, hp, rfl⟩, fun h => h, fun h => ⟨h, rfl⟩⟩
  | p :: more, l, hl, hm => by
    obtain ⟨h1, h2⟩ := hm.tail
    have a := add_law hl h1
    have ih := behind_law more a.pos h2
    show Added l (p :: more) (behindP (addPart l p) more)
    refine ⟨ih.pos, fun k => ?_, ?_, fun q hq => ?_, fun ha => ih.adj (a.adj ha), fun e => ?_⟩
    · rw [ih.of, a.of, ofL_cons, ofL_cons, ofL_nil]; omega
    · rw [ih.sum, a.sum, sumL_cons, sumL_cons, sumL_nil]; omega
    · rcases ih.ins q hq with ⟨r, hr, e⟩ | ⟨r, hr, e⟩
      · rcases a.ins r hr with ⟨x, hx, e2⟩ | ⟨x, hx, e2⟩
        · exact .inl ⟨x, hx, e2.trans e⟩
        · rw [List.mem_singleton] at hx; subst hx; exact .inr ⟨x, by simp, e2.trans e⟩
      · exact .inr ⟨r, by simp [hr], e⟩
    · exact absurd (a.some (ih.some e).1).2 (by simp)

theorem adj_iff : ∀ (l : List Portion), Adj l ↔ ∀ j (h : j + 1 < l.length), l[j].plot ≠ l[j + 1].plot
  | [] => by simp [Adj]
  | [a] => by simp [Adj]
  | a :: b :: l => by
    have ih := adj_iff (b :: l)
    show (_ ∧ Adj (b :: l)) ↔ _
    rw [ih]
    constructor
    · rintro ⟨h1, h2⟩ j hj
      cases j with
      | zero => exact h1 b rfl
      | succ j => exact h2 j (by simpa using hj)
    · intro h
      refine ⟨fun q hq => ?_, fun j hj => ?_⟩
      · simp at hq; subst hq; exact h 0 (by simp)
      · exact h (j + 1) (by simpa using hj)
/-- Parts of n fields, in order. -/
def OkP (n : Nat) (l : List Portion) : Prop := (∀ p ∈ l, 0 ≤ p.plot ∧ p.plot < (n : Int)) ∧ Pos l ∧ Adj l
theorem part_iff {n : Nat} {l : List Portion} {j : Nat} (h : j < l.length) : partAt n l j = true ↔ (0 ≤ l[j].plot ∧ l[j].plot < (n : Int)) ∧ (1 ≤ l[j].loads ∧ l[j].loads ≤ 100000) ∧ (j = 0 ∨ (l.getD (j - 1) default).plot ≠ l[j].plot) := by
  rw [partAt, getD_lt _ h]
  simp only [Bool.and_eq_true, Bool.or_eq_true, inB, decide_eq_true_eq]
  constructor
  · rintro ⟨⟨⟨a, b⟩, c⟩, d⟩; exact ⟨⟨a, by omega⟩, c, d⟩
  · rintro ⟨⟨a, b⟩, c, d⟩; exact ⟨⟨⟨a, by omega⟩, c⟩, d⟩
theorem proper_ok {n : Nat} {l : List Portion} (h : properB n l = true) : OkP n l := by
  refine ⟨proper_in h, fun p hp => ?_, (adj_iff l).2 fun j hj => ?_⟩
  · obtain ⟨i, hi, rfl⟩ := List.getElem_of_mem hp
    exact ((part_iff hi).1 (allB_get h hi)).2.1.1
  · rcases ((part_iff hj).1 (allB_get h hj)).2.2 with h1 | h1
    · omega
    · rwa [show j + 1 - 1 = j from rfl, getD_lt _ (show j < l.length by omega)] at h1
theorem OkP.proper {n : Nat} {l : List Portion} (h : OkP n l) (hs : sumL l ≤ 100000) : properB n l = true := by
  refine allB_end fun j hj => (part_iff hj).2 ⟨h.1 _ (List.getElem_mem hj), ⟨h.2.1 _ (List.getElem_mem hj), ?_⟩, ?_⟩
  · have := h.2.1.le _ (List.getElem_mem hj); omega
  · cases j with
    | zero => exact .inl rfl
    | succ j =>
      refine .inr ?_
      rw [show j + 1 - 1 = j from rfl, getD_lt _ (show j < l.length by omega)]
      exact (adj_iff l).1 h.2.2 j hj
theorem OkP.cut {n : Nat} {l : List Portion} (h : OkP n l) {k : Int} (hk : 0 ≤ k) : OkP n (cutF l k) ∧ OkP n (cutR l k) := by
  have c := cut_law l k h.2.1 hk
  refine ⟨⟨fun p hp => ?_, c.posF, (c.adj h.2.2).1⟩, ⟨fun p hp => ?_, c.posR, (c.adj h.2.2).2⟩⟩
  · obtain ⟨q, hq, e⟩ := c.inF p hp; rw [← e]; exact h.1 q hq
  · obtain ⟨q, hq, e⟩ := c.inR p hp; rw [← e]; exact h.1 q hq
theorem OkP.behind {n : Nat} {l m : List Portion} (h : OkP n l) (h2 : OkP n m) : OkP n (behindP l m) := by
  have a := behind_law m h.2.1 h2.2.1
  refine ⟨fun p hp => ?_, a.pos, a.adj h.2.2⟩
  rcases a.ins p hp with ⟨q, hq, e⟩ | ⟨q, hq, e⟩
  · rw [← e]; exact h.1 q hq
  · rw [← e]; exact h2.1 q hq
end Go.Proofs.Ytpgkhlpepckfgaa
end
section
namespace Go.Proofs.Ytpgkhlpepckfgaa
open Go.RowKit Go.Lib

structure OkH (pl : List Plot) (h : Heap) : Prop where
  name : nameB h.name = true
  crop : 1 ≤ h.crop ∧ h.crop ≤ 3
  stage : 1 ≤ h.stage ∧ h.stage ≤ 3
  some : h.parts ≠ []
  parts : OkP pl.length h.parts
  wet : 0 ≤ h.wet.lo ∧ h.wet.lo ≤ h.wet.hi ∧ h.wet.hi ≤ 1000
  crops : ∀ p ∈ h.parts, (pl.getD p.plot.toNat default).crop = h.crop
  per : if h.stage = 3 then (1 ≤ h.per ∧ h.per ≤ 100) ∧ sumL h.parts % h.per = 0 else h.per = 0
theorem heapB_ok {pl : List Plot} {h : Heap} (hh : heapB pl h = true) : OkH pl h := by
  have hp := heapB_proper hh
  unfold heapB at hh
  simp only [Bool.and_eq_true, inB, spanB, cropB, decide_eq_true_eq, List.all_eq_true] at hh
  obtain ⟨⟨⟨⟨⟨⟨⟨a1, a2⟩, a3⟩, a4⟩, a5⟩, a6⟩, a7⟩, a8⟩ := hh
  refine ⟨a1, a2, a3, fun e => a4 (by rw [e]; rfl), proper_ok hp, ⟨a6.1.1, a6.1.2, a6.2⟩, a7, ?_⟩
  by_cases e : h.stage = 3
  · rw [if_pos e] at a8 ⊢
    simp only [Bool.and_eq_true, decide_eq_true_eq] at a8
    exact a8
  · rw [if_neg e] at a8 ⊢
    simpa using a8
theorem OkH.heap {pl : List Plot} {h : Heap} (k : OkH pl h) (hs : sumL h.parts ≤ 100000) : heapB pl h = true := by
  have hp := k.parts.proper hs
  unfold heapB
  simp only [Bool.and_eq_true, inB, spanB, cropB, decide_eq_true_eq, List.all_eq_true]
  refine ⟨⟨⟨⟨⟨⟨⟨k.name, k.crop⟩, k.stage⟩, fun e => k.some (List.eq_nil_of_length_eq_zero e)⟩, hp⟩, ⟨⟨k.wet.1, k.wet.2.1⟩, k.wet.2.2⟩⟩, k.crops⟩, ?_⟩
  have q := k.per
  by_cases e : h.stage = 3
  · rw [if_pos e] at q ⊢
    simp only [Bool.and_eq_true, decide_eq_true_eq]
    exact q
  · rw [if_neg e] at q ⊢
    simpa using q
structure OkS (pl : List Plot) (s : Store) : Prop where
  year : 0 ≤ s.year ∧ s.year ≤ 100
  last : s.last.length = pl.length
  given : s.given.length = pl.length
  hlen : s.heaps.length ≤ 16
  used : OkP pl.length s.used
  waste : OkP pl.length s.waste
  heaps : ∀ h ∈ s.heaps, OkH pl h
  names : s.heaps.Pairwise fun g h => g.name ≠ h.name
  total : totalS s ≤ 100000
  lasts : ∀ i, i < pl.length → -1 ≤ s.last.getD i 0 ∧ s.last.getD i 0 ≤ s.year
  givens : ∀ i : Nat, i < pl.length → s.given.getD i 0 = leftL s.heaps i + ofL s.used i + ofL s.waste i
theorem heapNew_iff {l : List Heap} {i : Nat} (h : i < l.length) : heapNew l i = true ↔ ∀ j (hj : j < i), l[j].name ≠ l[i].name := by
  unfold heapNew
  rw [getD_lt _ h]
  simp only [List.all_eq_true, decide_eq_true_eq]
  constructor
  · intro q j hj
    exact q _ (List.mem_take_iff_getElem.2 ⟨j, by omega, rfl⟩)
  · intro q x hx
    obtain ⟨j, hj, rfl⟩ := List.mem_take_iff_getElem.1 hx
    exact q j (by omega)
theorem names_iff {l : List Heap} : (l.Pairwise fun g h => g.name ≠ h.name) ↔ ∀ i, i < l.length → heapNew l i = true := by
  rw [List.pairwise_iff_getElem]
  constructor
  · intro q i hi
    exact (heapNew_iff hi).2 fun j hj => q j i (by omega) hi hj
  · intro q i j hi hj hij
    exact (heapNew_iff hj).1 (q j hj) i hij
theorem heapsL_one {l : List Heap} (h : ∀ x ∈ l, 0 ≤ sumL x.parts) : 0 ≤ heapsL l ∧ ∀ x ∈ l, sumL x.parts ≤ heapsL l := by
  induction l with
  | nil => simp [heapsL]
  | cons a l ih =>
    obtain ⟨i1, i2⟩ := ih fun p hp => h p (by simp [hp])
    have h0 := h a (by simp)
    have e : heapsL (a :: l) = sumL a.parts + heapsL l := by simp [heapsL]
    rw [e]
    refine ⟨by omega, fun x hx => ?_⟩
    rcases List.mem_cons.1 hx with rfl | hx
    · omega
    · have := i2 x hx; omega
theorem store_ok {pl : List Plot} {s : Store} (h : storeB pl s = true) : OkS pl s := by
  rw [storeB_eq, Bool.and_eq_true, Bool.and_eq_true, Bool.and_eq_true] at h
  obtain ⟨⟨⟨q, hh⟩, ht⟩, hf⟩ := h
  simp only [storeHead, Bool.and_eq_true, decide_eq_true_eq, inB] at q
  obtain ⟨⟨⟨⟨⟨t1, t2⟩, t3⟩, t4⟩, t5⟩, t6⟩ := q
  have h1 : ∀ i, i < s.heaps.length → heapNew s.heaps i = true ∧ heapB pl (s.heaps.getD i default) = true := fun i hi => by
    have := allB_get hh hi
    unfold heapAt at this
    rwa [Bool.and_eq_true] at this
  have h2 : ∀ i, i < pl.length → fieldAt s i = true := fun i hi => allB_get hf hi
  simp only [fieldAt, Bool.and_eq_true, decide_eq_true_eq, inB] at h2
  refine ⟨t1, t2, t3, t4, proper_ok t5, proper_ok t6, fun x hx => ?_, names_iff.2 fun i hi => (h1 i hi).1, of_decide_eq_true ht, fun i hi => (h2 i hi).1, fun i hi => (h2 i hi).2⟩
  obtain ⟨i, hi, rfl⟩ := List.getElem_of_mem hx
  have := (h1 i hi).2
  rw [getD_lt _ hi] at this
  exact heapB_ok this
theorem OkS.sums {pl : List Plot} {s : Store} (h : OkS pl s) : 0 ≤ sumL s.used ∧ 0 ≤ sumL s.waste ∧ 0 ≤ heapsL s.heaps ∧ sumL s.used ≤ 100000 ∧ sumL s.waste ≤ 100000 ∧ ∀ x ∈ s.heaps, 0 ≤ sumL x.parts ∧ sumL x.parts ≤ 100000 := by
  have u := h.used.2.1.sum
  have v := h.waste.2.1.sum
  obtain ⟨x, y⟩ := heapsL_one (l := s.heaps) fun x hx => (h.heaps x hx).parts.2.1.sum
  have t := h.total
  unfold totalS at t
  exact ⟨u, v, x, by omega, by omega, fun z hz => ⟨(h.heaps z hz).parts.2.1.sum, by have := y z hz; omega⟩⟩
theorem OkS.store {pl : List Plot} {s : Store} (h : OkS pl s) : storeB pl s = true := by
  obtain ⟨u, v, x, u1, v1, y⟩ := h.sums
  rw [storeB_eq, Bool.and_eq_true, Bool.and_eq_true, Bool.and_eq_true]
  refine ⟨⟨⟨?_, allB_end fun i hi => ?_⟩, decide_eq_true h.total⟩, allB_end fun i hi => ?_⟩
  · simp only [storeHead, Bool.and_eq_true, decide_eq_true_eq, inB]
    exact ⟨⟨⟨⟨⟨h.year, h.last⟩, h.given⟩, h.hlen⟩, h.used.proper u1⟩, h.waste.proper v1⟩
  · unfold heapAt
    rw [Bool.and_eq_true, getD_lt _ hi]
    exact ⟨names_iff.1 h.names i hi, (h.heaps _ (List.getElem_mem hi)).heap (y _ (List.getElem_mem hi)).2⟩
  · simp only [fieldAt, Bool.and_eq_true, decide_eq_true_eq, inB]
    exact ⟨h.lasts i hi, h.givens i hi⟩
/-- The bounds that the walks ask for. -/
theorem OkS.lens {pl : List Plot} {s : Store} (h : OkS pl s) : s.used.length ≤ 100000 ∧ s.waste.length ≤ 100000 ∧ ∀ x ∈ s.heaps, x.parts.length ≤ 100000 := by
  obtain ⟨u, v, x, u1, v1, y⟩ := h.sums
  have a := h.used.2.1.len
  have b := h.waste.2.1.len
  exact ⟨by omega, by omega, fun z hz => by have := (h.heaps z hz).parts.2.1.len; have := (y z hz).2; omega⟩
theorem check_ok {pl : List Plot} {dry : Int} {s : Store} (h : checkS pl dry s = 0) : OkS pl s := store_ok (checkS_zero h).2
theorem OkS.check {pl : List Plot} {dry : Int} {s : Store} (h : OkS pl s) (hc : checkI pl dry = 0) : checkS pl dry s = 0 := checkS_ok hc h.store

/-! Heaps changed. -/
theorem sum_set (f : Heap → Int) (h : Heap) : ∀ (l : List Heap) (k : Nat), k < l.length → ((l.set k h).map f).sum = (l.map f).sum - f (l.getD k default) + f h
  | [], k, hk => by simp at hk
  | a :: l, 0, _ => by simp; omega
  | a :: l, k + 1, hk => by
    have := sum_set f h l k (by simpa using hk)
    simp only [List.set_cons_succ, List.map_cons, List.sum_cons, List.getD_cons_succ]; omega
theorem sum_erase (f : Heap → Int) : ∀ (l : List Heap) (k : Nat), k < l.length → ((l.eraseIdx k).map f).sum = (l.map f).sum - f (l.getD k default)
  | [], k, hk => by simp at hk
  | a :: l, 0, _ => by simp; omega
  | a :: l, k + 1, hk => by
    have := sum_erase f l k (by simpa using hk)
    simp only [List.eraseIdx_cons_succ, List.map_cons, List.sum_cons, List.getD_cons_succ]; omega
theorem sum_push (f : Heap → Int) (l : List Heap) (h : Heap) : ((l ++ [h]).map f).sum = (l.map f).sum + f h := by simp
theorem names_set {l : List Heap} {k : Nat} {h : Heap} (hn : l.Pairwise fun g h => g.name ≠ h.name) (hk : k < l.length) (e : h.name = (l.getD k default).name) : (l.set k h).Pairwise fun g h => g.name ≠ h.name := by
  rw [List.pairwise_iff_getElem] at hn ⊢
  rw [getD_lt _ hk] at e
  have key : ∀ i (hi : i < (l.set k h).length), (l.set k h)[i].name = (l[i]'(by simpa using hi)).name := fun i hi => by
    rw [List.getElem_set]
    split
    · subst_vars; exact e
    · rfl
  intro i j hi hj hij
  rw [key i hi, key j hj]
  exact hn i j _ _ hij
theorem names_erase {l : List Heap} (k : Nat) (hn : l.Pairwise fun g h => g.name ≠ h.name) : (l.eraseIdx k).Pairwise fun g h => g.name ≠ h.name := hn.sublist (List.eraseIdx_sublist l k)
theorem names_push {l : List Heap} {h : Heap} (hn : l.Pairwise fun g h => g.name ≠ h.name) (e : ∀ g ∈ l, g.name ≠ h.name) : (l ++ [h]).Pairwise fun g h => g.name ≠ h.name := by
  rw [List.pairwise_append]
  exact ⟨hn, by simp, fun a ha b hb => by rw [List.mem_singleton] at hb; subst hb; exact e a ha⟩
theorem idx_none {nm : ByteArray} {l : List Heap} (h : nameIdx nm l < 0) : ∀ g ∈ l, g.name ≠ nm := fun g hg e => by
  unfold nameIdx at h
  rw [if_pos (List.any_eq_true.2 ⟨g, hg, decide_eq_true e⟩)] at h
  omega
theorem idx_lt {nm : ByteArray} {l : List Heap} (h : ¬ nameIdx nm l < 0) : (nameIdx nm l).toNat < l.length := by have := (nameIdx_range nm l).2; omega
theorem mem_set {l : List Heap} {k : Nat} {h x : Heap} (hx : x ∈ l.set k h) : x ∈ l ∨ x = h := by
  rcases List.mem_or_eq_of_mem_set hx with h1 | h1
  · exact .inl h1
  · exact .inr h1
theorem getD_memH {l : List Heap} {k : Nat} (h : k < l.length) : l.getD k default ∈ l := by rw [getD_lt _ h]; exact List.getElem_mem h

/-- What a chore leaves; more: what a field gave. -/
structure Step (pl : List Plot) (s t : Store) (more : Nat → Int) : Prop where
  ok : OkS pl t
  used : ∀ k, ofL s.used k ≤ ofL t.used k
  waste : ∀ k, ofL s.waste k ≤ ofL t.waste k
  given : ∀ i : Nat, i < pl.length → t.given.getD i 0 = s.given.getD i 0 + more i
/-- Nothing is given. -/
theorem Step.same {pl : List Plot} {s t : Store} (h : OkS pl s) (e1 : t.year = s.year) (e2 : t.last = s.last) (e3 : t.given = s.given) (hl : t.heaps.length ≤ 16) (hu : OkP pl.length t.used) (hw : OkP pl.length t.waste) (hh : ∀ x ∈ t.heaps, OkH pl x)
    (hn : t.heaps.Pairwise fun g h => g.name ≠ h.name) (ht : totalS t = totalS s) (hf : ∀ k, leftL t.heaps k + ofL t.used k + ofL t.waste k = leftL s.heaps k + ofL s.used k + ofL s.waste k) (h1 : ∀ k, ofL s.used k ≤ ofL t.used k) (h2 : ∀ k, ofL s.waste k ≤ ofL t.waste k) : Step pl s t fun _ => 0 :=
  ⟨⟨by rw [e1]; exact h.year, by rw [e2]; exact h.last, by rw [e3]; exact h.given, hl, hu, hw, hh, hn, by rw [ht]; exact h.total, fun i hi => by rw [e1, e2]; exact h.lasts i hi, fun i hi => by rw [e3, hf]; exact h.givens i hi⟩, h1, h2, fun i _ => by rw [e3]; omega⟩
section
variable {pl : List Plot} {dry : Int} {s t : Store} {k : Nat} {a : Chore}
theorem keep_heaps (s : Store) (k : Nat) (l : List Portion) : (keepP s k l).year = s.year ∧ (keepP s k l).last = s.last ∧ (keepP s k l).given = s.given ∧ (keepP s k l).used = s.used ∧ (keepP s k l).waste = s.waste := by unfold keepP; split <;> exact ⟨rfl, rfl, rfl, rfl, rfl⟩
/-- The heaps, when parts are left in one. -/
structure Kept (pl : List Plot) (s t : Store) (k : Nat) (l : List Portion) : Prop where
  len : t.heaps.length ≤ s.heaps.length
  heaps : ∀ x ∈ t.heaps, OkH pl x
  names : t.heaps.Pairwise fun g h => g.name ≠ h.name
  sub : ∀ x ∈ t.heaps, ∃ y ∈ s.heaps, y.name = x.name
  left : ∀ i, leftL t.heaps i = leftL s.heaps i - ofL (s.heaps.getD k default).parts i + ofL l i
  sum : heapsL t.heaps = heapsL s.heaps - sumL (s.heaps.getD k default).parts + sumL l
theorem keep_ok {l : List Portion} (hh : ∀ x ∈ s.heaps, OkH pl x) (hn : s.heaps.Pairwise fun g h => g.name ≠ h.name) (hk : k < s.heaps.length) (hl : l ≠ [] → OkH pl (setPartsH (s.heaps.getD k default) l)) : Kept pl s (keepP s k l) k l := by
  unfold keepP
  split
  case isTrue e =>
    subst e
    refine ⟨?_, fun x hx => hh x (List.mem_of_mem_eraseIdx hx), names_erase k hn, fun x hx => ⟨x, List.mem_of_mem_eraseIdx hx, rfl⟩, fun i => ?_, ?_⟩
    · show (s.heaps.eraseIdx k).length ≤ _; rw [List.length_eraseIdx_of_lt hk]; omega
    · have := sum_erase (fun h => ofL h.parts i) s.heaps k hk; show leftL (s.heaps.eraseIdx k) i = _; unfold leftL; rw [ofL_nil]; omega
    · have := sum_erase (fun h => sumL h.parts) s.heaps k hk; show heapsL (s.heaps.eraseIdx k) = _; unfold heapsL; rw [sumL_nil]; omega
  case isFalse e =>
    refine ⟨by simp, fun x hx => ?_, names_set hn hk rfl, fun x hx => ?_, fun i => ?_, ?_⟩
    · rcases mem_set hx with h1 | rfl
      · exact hh x h1
      · exact hl e
    · rcases mem_set hx with h1 | rfl
      · exact ⟨x, h1, rfl⟩
      · exact ⟨_, getD_memH hk, rfl⟩
    · have := sum_set (fun h => ofL h.parts i) (setPartsH (s.heaps.getD k default) l) s.heaps k hk; unfold leftL; exact this
    · have := sum_set (fun h => sumL h.parts) (setPartsH (s.heaps.getD k default) l) s.heaps k hk; unfold heapsL; exact this
theorem pair_zero {p : Prop} [Decidable p] {e : Int} {x : Store} {b : Int × Store} (he : e ≠ 0) (h : (if p then (e, x) else b) = (0, t)) : ¬ p ∧ b = (0, t) := by
  by_cases hp : p
  · rw [if_pos hp] at h; exact absurd (congrArg Prod.fst h) he
  · rw [if_neg hp] at h; exact ⟨hp, h⟩
theorem year_ok (h : OkS pl s) (e : yearP s = (0, t)) : Step pl s t fun _ => 0 := by
  unfold yearP at e
  split at e
  case isTrue hy =>
    obtain rfl : _ = t := congrArg Prod.snd e
    refine ⟨⟨by have := h.year; show 0 ≤ s.year + 1 ∧ s.year + 1 ≤ 100; omega, h.last, h.given, h.hlen, h.used, h.waste, h.heaps, h.names, h.total, fun i hi => ?_, h.givens⟩, fun _ => Int.le_refl _, fun _ => Int.le_refl _, fun i _ => (Int.add_zero _).symm⟩
    have := h.lasts i hi
    show -1 ≤ s.last.getD i 0 ∧ s.last.getD i 0 ≤ s.year + 1
    omega
  case isFalse hy => exact absurd (congrArg Prod.fst e) (by simp)
theorem sumN_shift (f : Nat → Int) : ∀ n, sumN f (n + 1) = f 0 + sumN (fun i => f (i + 1)) n
  | 0 => by simp [sumN]
  | n + 1 => by
    have := sumN_shift f n
    simp only [sumN] at this ⊢
    omega
theorem sumInts_N : ∀ (l : List Int), l.sum = sumN (fun i => l.getD i 0) l.length
  | [] => rfl
  | x :: l => by
    have := sumInts_N l
    rw [List.length_cons, sumN_shift, List.sum_cons, this]
    rfl
theorem sumN_given {pl : List Plot} {s : Store} (h : OkS pl s) : s.given.sum = totalS s := by
  have e : fieldSum s = fun i : Nat => (fun i : Nat => (fun i : Nat => ofL s.used i) i + (fun i : Nat => ofL s.waste i) i) i + (fun i : Nat => leftL s.heaps i) i := rfl
  have ht : sumN (fieldSum s) pl.length = totalS s := by
    rw [e, sumN_add, sumN_add, sumN_of _ _ h.used.1, sumN_of _ _ h.waste.1, sumN_left]
    · rfl
    · intro x hx p hp; exact (h.heaps x hx).parts.1 p hp
  rw [sumInts_N, h.given, ← ht]
  exact sumN_mono _ fun i hi => by rw [h.givens i hi]; unfold fieldSum; omega
theorem getD_set {α : Type} (l : List α) (k i : Nat) (x d : α) (hk : k < l.length) : (l.set k x).getD i d = if k = i then x else l.getD i d := by
  rw [List.getD_eq_getElem?_getD, List.getElem?_set]
  by_cases h : k = i
  · rw [if_pos h, if_pos h, if_pos hk]; rfl
  · rw [if_neg h, if_neg h, List.getD_eq_getElem?_getD]
theorem mow_ok (h : OkS pl s) (hc : checkI pl dry = 0) (e : mowP pl s a = (0, t)) : Step pl s t fun i => if a.plot = (i : Int) then a.loads else 0 := by
  unfold mowP at e
  obtain ⟨c1, e⟩ := pair_zero (by decide) e
  obtain ⟨c2, e⟩ := pair_zero (by decide) e
  obtain ⟨c3, e⟩ := pair_zero (by decide) e
  obtain ⟨c4, e⟩ := pair_zero (by decide) e
  obtain ⟨c5, e⟩ := pair_zero (by decide) e
  obtain ⟨c6, e⟩ := pair_zero (by decide) e
  obtain rfl : _ = t := congrArg Prod.snd e
  clear e
  rw [Bool.not_eq_false] at c1 c2
  simp only [inB, Bool.and_eq_true, decide_eq_true_eq] at c1
  obtain ⟨p, hp⟩ : ∃ p : Nat, a.plot = (p : Int) := ⟨a.plot.toNat, by omega⟩
  have hpl : p < pl.length := by omega
  rw [hp] at c4 c5 ⊢
  rw [Int.toNat_natCast] at c4 c5 ⊢
  have hq : pl.getD p default ∈ pl := by rw [getD_lt _ hpl]; exact List.getElem_mem hpl
  have hok := checkI_ok hc _ hq
  simp only [plotOk, Bool.and_eq_true, inB, spanB, cropB, decide_eq_true_eq] at hok
  obtain ⟨⟨⟨⟨⟨k1, k2⟩, k3⟩, k4⟩, k5⟩, k6⟩ := hok
  obtain ⟨c5, c5b⟩ := Classical.not_not.1 c5
  obtain ⟨c6, c6b⟩ := Classical.not_not.1 c6
  simp only [inB, Bool.and_eq_true, decide_eq_true_eq] at c5b
  have hlo : 0 ≤ (pl.getD p default).size * (pl.getD p default).yield.lo := Int.mul_nonneg (by omega) (by omega)
  have hld : 1 ≤ a.loads := by omega
  have hsum : s.given.sum = totalS s := by
    have := sumN_given h
    exact this
  have hpos : Pos [(⟨(p : Int), a.loads⟩ : Portion)] := Pos.cons hld (by simp [Pos])
  refine ⟨⟨h.year, by simp [h.last], by simp [h.given], by simp; omega, h.used, h.waste, fun x hx => ?_, names_push h.names (idx_none (nm := a.name) (by omega)), ?_, fun i hi => ?_, fun i hi => ?_⟩, fun _ => Int.le_refl _, fun _ => Int.le_refl _, fun i hi => ?_⟩
  · rcases List.mem_append.1 hx with h1 | h1
    · exact h.heaps x h1
    · rw [List.mem_singleton] at h1; subst h1
      refine ⟨c2, k1, (show (1 : Int) ≤ 1 ∧ (1 : Int) ≤ 3 by decide), by simp, ⟨fun q hq => ?_, hpos, by simp, trivial⟩, ⟨k5.1.1, k5.1.2, k5.2⟩, fun q hq => ?_, ?_⟩
      · rw [List.mem_singleton] at hq; subst hq; dsimp only; omega
      · rw [List.mem_singleton] at hq; subst hq; rfl
      · rw [if_neg (show ¬ (1 : Int) = 3 by decide)]
  · show sumL s.used + sumL s.waste + heapsL (s.heaps ++ [_]) ≤ 100000
    have := sum_push (fun h => sumL h.parts) s.heaps ⟨a.name, (pl.getD p default).crop, 1, [⟨(p : Int), a.loads⟩], 0, (pl.getD p default).wet, none, 0⟩
    unfold totalS at hsum
    unfold heapsL at hsum ⊢
    rw [this]
    show _ + (_ + sumL [_]) ≤ _
    rw [sumL_cons, sumL_nil]
    dsimp only
    omega
  · show -1 ≤ (s.last.set p s.year).getD i 0 ∧ (s.last.set p s.year).getD i 0 ≤ s.year
    rw [getD_set _ _ _ _ _ (by rw [h.last]; exact hpl)]
    have := h.lasts i hi
    have := h.year
    split <;> omega
  · show (s.given.set p (s.given.getD p 0 + a.loads)).getD i 0 = leftL (s.heaps ++ [_]) i + ofL s.used i + ofL s.waste i
    have := sum_push (fun h => ofL h.parts i) s.heaps ⟨a.name, (pl.getD p default).crop, 1, [⟨(p : Int), a.loads⟩], 0, (pl.getD p default).wet, none, 0⟩
    have hg := h.givens i hi
    unfold leftL at hg ⊢
    rw [this, getD_set _ _ _ _ _ (by rw [h.given]; exact hpl)]
    dsimp only
    rw [ofL_cons, ofL_nil]
    dsimp only
    by_cases hpi : p = i
    · subst hpi; rw [if_pos rfl, if_pos rfl]; omega
    · rw [if_neg hpi, if_neg (by omega)]; omega
  · show (s.given.set p (s.given.getD p 0 + a.loads)).getD i 0 = _
    rw [getD_set _ _ _ _ _ (by rw [h.given]; exact hpl)]
    by_cases hpi : p = i
    · subst hpi; rw [if_pos rfl, if_pos rfl]
    · rw [if_neg hpi, if_neg (by omega)]; omega
end
end Go.Proofs.Ytpgkhlpepckfgaa
end
section
namespace Go.Proofs.Ytpgkhlpepckfgaa
open Go.RowKit Go.Lib
section
variable {pl : List Plot} {dry : Int} {s t : Store} {k : Nat} {a : Chore}
theorem OkH.bound {h : Heap} (k : OkH pl h) (e : h.stage = 3) : (1 ≤ h.per ∧ h.per ≤ 100) ∧ sumL h.parts % h.per = 0 := by have := k.per; rwa [if_pos e] at this
theorem OkH.free {h : Heap} (k : OkH pl h) (e : h.stage ≠ 3) : h.per = 0 := by have := k.per; rwa [if_neg e] at this
/-- One heap changed. -/
theorem set_ok {h : Heap} {k : Nat} {us ws : List Portion} (ho : OkS pl s) (hk : k < s.heaps.length) (hn : h.name = (s.heaps.getD k default).name) (hh : OkH pl h) (hu : OkP pl.length us) (hw : OkP pl.length ws)
    (ht : sumL us + sumL ws + sumL h.parts = sumL s.used + sumL s.waste + sumL (s.heaps.getD k default).parts)
    (hf : ∀ i, ofL h.parts i + ofL us i + ofL ws i = ofL (s.heaps.getD k default).parts i + ofL s.used i + ofL s.waste i) (h1 : ∀ i, ofL s.used i ≤ ofL us i) (h2 : ∀ i, ofL s.waste i ≤ ofL ws i) :
    Step pl s { s with used := us, waste := ws, heaps := s.heaps.set k h } fun _ => 0 := by
  refine Step.same ho rfl rfl rfl (by simpa using ho.hlen) hu hw (fun x hx => ?_) (names_set ho.names hk hn) ?_ (fun i => ?_) h1 h2
  · rcases mem_set hx with q | rfl
    · exact ho.heaps x q
    · exact hh
  · have := sum_set (fun h => sumL h.parts) h s.heaps k hk
    unfold totalS heapsL at *
    dsimp only at *
    omega
  · have := sum_set (fun h => ofL h.parts i) h s.heaps k hk
    have := hf i
    unfold leftL at *
    dsimp only at *
    omega
/-- Parts are left in a heap. -/
theorem rest_ok {l : List Portion} {us ws : List Portion} (ho : OkS pl s) (hk : k < s.heaps.length) (hl : l ≠ [] → OkH pl (setPartsH (s.heaps.getD k default) l)) (hu : OkP pl.length us) (hw : OkP pl.length ws)
    (ht : sumL us + sumL ws + sumL l = sumL s.used + sumL s.waste + sumL (s.heaps.getD k default).parts)
    (hf : ∀ i, ofL l i + ofL us i + ofL ws i = ofL (s.heaps.getD k default).parts i + ofL s.used i + ofL s.waste i) (h1 : ∀ i, ofL s.used i ≤ ofL us i) (h2 : ∀ i, ofL s.waste i ≤ ofL ws i) :
    Step pl s (keepP { s with used := us, waste := ws } k l) fun _ => 0 := by
  have K : Kept pl { s with used := us, waste := ws } (keepP { s with used := us, waste := ws } k l) k l := keep_ok (s := { s with used := us, waste := ws }) ho.heaps ho.names hk hl
  obtain ⟨e1, e2, e3, e4, e5⟩ := keep_heaps { s with used := us, waste := ws } k l
  refine Step.same ho e1 e2 e3 (Nat.le_trans K.len ho.hlen) (by rw [e4]; exact hu) (by rw [e5]; exact hw) K.heaps K.names ?_ (fun i => ?_) (fun i => by rw [e4]; exact h1 i) (fun i => by rw [e5]; exact h2 i)
  · have := K.sum
    unfold totalS
    rw [e4, e5, this]
    dsimp only
    omega
  · have := K.left i
    have := hf i
    rw [e4, e5]
    dsimp only at *
    omega
theorem clamp_le {x y : Int} (h : x ≤ y) : 0 ≤ clampP x ∧ clampP x ≤ clampP y ∧ clampP y ≤ 1000 := by unfold clampP; omega
theorem dry_ok (ho : OkS pl s) (hk : k < s.heaps.length) (e : dryP s k a = (0, t)) : Step pl s t fun _ => 0 := by
  unfold dryP at e
  obtain ⟨c1, e⟩ := pair_zero (by decide) e
  obtain ⟨c2, e⟩ := pair_zero (by decide) e
  obtain rfl : _ = t := congrArg Prod.snd e
  clear e
  obtain ⟨c2, c3⟩ := Classical.not_not.1 c2
  simp only [inB, spanB, Bool.and_eq_true, decide_eq_true_eq] at c2 c3
  have hh := ho.heaps _ (getD_memH hk)
  exact set_ok ho hk rfl ⟨hh.name, hh.crop, hh.stage, hh.some, hh.parts, clamp_le (by have := hh.wet; omega), hh.crops, hh.per⟩ ho.used ho.waste rfl (fun _ => rfl) (fun _ => Int.le_refl _) (fun _ => Int.le_refl _)
theorem OkH.left {h : Heap} (hh : OkH pl h) {l : List Portion} (hne : l ≠ []) (hl : OkP pl.length l) (hc : ∀ p ∈ l, ∃ q ∈ h.parts, q.plot = p.plot) (hp : h.stage = 3 → sumL l % h.per = 0) : OkH pl (setPartsH h l) := by
  refine ⟨hh.name, hh.crop, hh.stage, hne, hl, hh.wet, fun p hp => ?_, ?_⟩
  · obtain ⟨q, hq, e⟩ := hc p hp; rw [← e]; exact hh.crops q hq
  · by_cases e : h.stage = 3
    · have := hh.bound e
      rw [if_pos (by exact e)]
      exact ⟨this.1, hp e⟩
    · rw [if_neg (by exact e)]; exact hh.free e
theorem sumL_ne {l : List Portion} (h : 0 < sumL l) : l ≠ [] := fun e => by subst e; rw [sumL_nil] at h; omega
theorem comb_ok (ho : OkS pl s) (hk : k < s.heaps.length) (e : combP dry s k a = (0, t)) : Step pl s t fun _ => 0 := by
  unfold combP at e
  obtain ⟨c1, e⟩ := pair_zero (by decide) e
  obtain ⟨c2, e⟩ := pair_zero (by decide) e
  obtain rfl : _ = t := congrArg Prod.snd e
  clear e
  obtain ⟨c1, c1b⟩ := Classical.not_not.1 c1
  rw [Bool.not_eq_false] at c2
  simp only [inB, Bool.and_eq_true, decide_eq_true_eq] at c2
  have hh := ho.heaps _ (getD_memH hk)
  have c := cut_law _ a.loads hh.parts.2.1 c2.1
  have b := behind_law _ ho.waste.2.1 c.posF
  obtain ⟨o1, o2⟩ := hh.parts.cut c2.1
  have hs := c.sum
  have hsF := c.sumF
  have hbs := b.sum
  have hL := hh.left (l := cutR (s.heaps.getD k default).parts a.loads) (sumL_ne (by omega)) o2 c.inR (fun e => by omega)
  refine set_ok ho hk rfl ⟨hL.name, hL.crop, (show (1 : Int) ≤ 2 ∧ (2 : Int) ≤ 3 by decide), hL.some, hL.parts, hL.wet, hL.crops, by refine (if_neg (show ¬ (2 : Int) = 3 by decide)).mpr ?_; exact hh.free (by omega)⟩ ho.used (ho.waste.behind o1) ?_ (fun i => ?_) (fun _ => Int.le_refl _) (fun i => ?_)
  · show sumL s.used + _ + sumL (cutR _ _) = _
    omega
  · have := b.of i; have := c.of i
    show ofL (cutR _ _) i + _ + _ = _
    omega
  · have := b.of i; have := c.posF.of i; omega
theorem use_ok (ho : OkS pl s) (hk : k < s.heaps.length) (e : useP s k a = (0, t)) : Step pl s t fun _ => 0 := by
  unfold useP at e
  obtain ⟨c1, e⟩ := pair_zero (by decide) e
  obtain ⟨c2, e⟩ := pair_zero (by decide) e
  obtain rfl : _ = t := congrArg Prod.snd e
  clear e
  have c1 := Classical.not_not.1 c1
  rw [Bool.not_eq_false] at c2
  simp only [inB, Bool.and_eq_true, decide_eq_true_eq] at c2
  have hh := ho.heaps _ (getD_memH hk)
  obtain ⟨⟨p1, p2⟩, pm⟩ := hh.bound c1
  have hn : 0 ≤ a.loads * (s.heaps.getD k default).per := Int.mul_nonneg (by omega) (by omega)
  have hle : a.loads * (s.heaps.getD k default).per ≤ sumL (s.heaps.getD k default).parts := by
    have h1 : a.loads * (s.heaps.getD k default).per ≤ sumL (s.heaps.getD k default).parts / (s.heaps.getD k default).per * (s.heaps.getD k default).per := Int.mul_le_mul_of_nonneg_right c2.2 (by omega)
    have h2 := Int.ediv_mul_le (sumL (s.heaps.getD k default).parts) (b := (s.heaps.getD k default).per) (by omega)
    omega
  have c := cut_law _ _ hh.parts.2.1 hn
  have b := behind_law _ ho.used.2.1 c.posF
  obtain ⟨o1, o2⟩ := hh.parts.cut hn
  have hs := c.sum
  have hsF := c.sumF
  have hbs := b.sum
  refine rest_ok (us := behindP s.used _) (ws := s.waste) ho hk (fun hne => hh.left hne o2 c.inR fun _ => ?_) (ho.used.behind o1) ho.waste ?_ (fun i => ?_) (fun i => ?_) (fun _ => Int.le_refl _)
  · have e1 : sumL (cutR (s.heaps.getD k default).parts (a.loads * (s.heaps.getD k default).per)) = sumL (s.heaps.getD k default).parts - a.loads * (s.heaps.getD k default).per := by omega
    rw [e1, Int.sub_emod, pm, Int.mul_emod_left]; rfl
  · omega
  · have := b.of i; have := c.of i; omega
  · have := b.of i; have := c.posF.of i; omega
theorem rot_ok (ho : OkS pl s) (hk : k < s.heaps.length) (e : rotP dry s k = (0, t)) : Step pl s t fun _ => 0 := by
  unfold rotP at e
  obtain ⟨c1, e⟩ := pair_zero (by decide) e
  obtain rfl : _ = t := congrArg Prod.snd e
  clear e
  have hh := ho.heaps _ (getD_memH hk)
  have b := behind_law _ ho.waste.2.1 hh.parts.2.1
  have hbs := b.sum
  refine rest_ok (us := s.used) (ws := behindP s.waste _) ho hk (fun hne => absurd rfl hne) ho.used (ho.waste.behind hh.parts) ?_ (fun i => ?_) (fun _ => Int.le_refl _) (fun i => ?_)
  · rw [sumL_nil]; omega
  · have := b.of i; rw [ofL_nil]; omega
  · have := b.of i; have := hh.parts.2.1.of i; omega
theorem join_ok (ho : OkS pl s) (hk : k < s.heaps.length) (e : joinP s k a = (0, t)) : Step pl s t fun _ => 0 := by
  unfold joinP at e
  obtain ⟨c1, e⟩ := pair_zero (by decide) e
  obtain ⟨c2, e⟩ := pair_zero (by decide) e
  obtain ⟨c3, e⟩ := pair_zero (by decide) e
  obtain rfl : _ = t := congrArg Prod.snd e
  clear e
  obtain ⟨m, hm⟩ : ∃ m, m = (nameIdx a.other s.heaps).toNat := ⟨_, rfl⟩
  have hml : m < s.heaps.length := hm ▸ idx_lt c1
  have hmk : m ≠ k := by omega
  rw [← hm] at c3 ⊢
  obtain ⟨c3, c4, c5⟩ := Classical.not_not.1 c3
  have hg := ho.heaps _ (getD_memH hk)
  have hh := ho.heaps _ (getD_memH hml)
  have b := behind_law _ hg.parts.2.1 hh.parts.2.1
  have hbs := b.sum
  obtain ⟨g', hg'⟩ : ∃ g', g' = wetH (setPartsH (s.heaps.getD k default) (behindP (s.heaps.getD k default).parts (s.heaps.getD m default).parts)) ⟨min (s.heaps.getD k default).wet.lo (s.heaps.getD m default).wet.lo, max (s.heaps.getD k default).wet.hi (s.heaps.getD m default).wet.hi⟩ := ⟨_, rfl⟩
  have ok' : OkH pl g' := by
    rw [hg']
    refine ⟨hg.name, hg.crop, hg.stage, fun e => hg.some (b.some e).1, hg.parts.behind hh.parts, ?_, fun p hp => ?_, ?_⟩
    · have := hg.wet; have := hh.wet
      show 0 ≤ min _ _ ∧ min _ _ ≤ max _ _ ∧ max _ _ ≤ 1000
      omega
    · rcases b.ins p hp with ⟨q, hq, e⟩ | ⟨q, hq, e⟩
      · rw [← e]; exact hg.crops q hq
      · rw [← e]; exact (hh.crops q hq).trans c3.symm
    · rw [if_neg (by exact c5)]; exact hg.free c5
  have en : g'.name = (s.heaps.getD k default).name := by rw [hg']; rfl
  have ep : g'.parts = behindP (s.heaps.getD k default).parts (s.heaps.getD m default).parts := by rw [hg']; rfl
  rw [← hg']
  clear hg'
  have hgm : (s.heaps.set k g').getD m default = s.heaps.getD m default := by rw [getD_set _ _ _ _ _ hk, if_neg (fun e => hmk e.symm)]
  have hml' : m < (s.heaps.set k g').length := by simpa using hml
  have K : Kept pl { s with heaps := s.heaps.set k g' } (keepP { s with heaps := s.heaps.set k g' } m []) m [] := keep_ok (s := { s with heaps := s.heaps.set k g' }) (fun x hx => by
    rcases mem_set hx with q | rfl
    · exact ho.heaps x q
    · exact ok') (names_set ho.names hk en) hml' (fun hne => absurd rfl hne)
  obtain ⟨e1, e2, e3, e4, e5⟩ := keep_heaps { s with heaps := s.heaps.set k g' } m []
  refine Step.same ho e1 e2 e3 ?_ (by rw [e4]; exact ho.used) (by rw [e5]; exact ho.waste) K.heaps K.names ?_ (fun i => ?_) (fun i => by rw [e4]; exact Int.le_refl _) (fun i => by rw [e5]; exact Int.le_refl _)
  · have h1 := K.len; have h2 := ho.hlen; have h3 : (s.heaps.set k g').length = s.heaps.length := List.length_set; exact Nat.le_trans h1 (by show (s.heaps.set k g').length ≤ 16; omega)
  · have h1 := K.sum
    have h2 := sum_set (fun h => sumL h.parts) g' s.heaps k hk
    unfold totalS
    rw [e4, e5, h1]
    dsimp only at *
    rw [hgm, sumL_nil]
    rw [ep] at h2
    unfold heapsL
    omega
  · have h1 := K.left i
    have h2 := sum_set (fun h => ofL h.parts i) g' s.heaps k hk
    have := b.of i
    rw [e4, e5, h1]
    dsimp only at *
    rw [hgm, ofL_nil]
    rw [ep] at h2
    unfold leftL
    omega
theorem bind_ok (ho : OkS pl s) (hk : k < s.heaps.length) (e : bindP dry s k a = (0, t)) : Step pl s t fun _ => 0 := by
  unfold bindP at e
  obtain ⟨c1, e⟩ := pair_zero (by decide) e
  obtain ⟨c2, e⟩ := pair_zero (by decide) e
  obtain ⟨c3, e⟩ := pair_zero (by decide) e
  obtain ⟨c4, e⟩ := pair_zero (by decide) e
  obtain ⟨c5, e⟩ := pair_zero (by decide) e
  obtain ⟨c6, e⟩ := pair_zero (by decide) e
  obtain rfl : _ = t := congrArg Prod.snd e
  clear e
  rw [Bool.not_eq_false] at c1 c4
  obtain ⟨c3, c3b⟩ := Classical.not_not.1 c3
  have c5 := Classical.not_not.1 c5
  have c6 := Classical.not_not.1 c6
  simp only [inB, Bool.and_eq_true, decide_eq_true_eq] at c4
  have hh := ho.heaps _ (getD_memH hk)
  obtain ⟨n, hn⟩ : ∃ n, n = sumL (s.heaps.getD k default).parts / a.per := ⟨_, rfl⟩
  rw [← hn] at c5 c6 ⊢
  have hn0 : 0 < n * a.per := Int.mul_pos c5 (by omega)
  have hle : n * a.per ≤ sumL (s.heaps.getD k default).parts := by rw [hn]; exact Int.ediv_mul_le _ (by omega)
  have c := cut_law _ (n * a.per) hh.parts.2.1 (by omega)
  obtain ⟨o1, o2⟩ := hh.parts.cut (k := n * a.per) (by omega)
  have hs := c.sum
  have hsF := c.sumF
  have K : Kept pl s (keepP s k (cutR (s.heaps.getD k default).parts (n * a.per))) k (cutR (s.heaps.getD k default).parts (n * a.per)) := keep_ok ho.heaps ho.names hk (fun hne => hh.left hne o2 c.inR fun e => by omega)
  obtain ⟨e1, e2, e3, e4, e5⟩ := keep_heaps s k (cutR (s.heaps.getD k default).parts (n * a.per))
  obtain ⟨t1, ht1⟩ : ∃ t1, t1 = keepP s k (cutR (s.heaps.getD k default).parts (n * a.per)) := ⟨_, rfl⟩
  rw [← ht1] at K e1 e2 e3 e4 e5 c6 ⊢
  unfold pushH
  refine Step.same ho e1 e2 e3 (by simp; omega) (by rw [e4]; exact ho.used) (by rw [e5]; exact ho.waste) (fun x hx => ?_) (names_push K.names fun g hg => ?_) ?_ (fun i => ?_) (fun i => by rw [e4]; exact Int.le_refl _) (fun i => by rw [e5]; exact Int.le_refl _)
  · rcases List.mem_append.1 hx with q | q
    · exact K.heaps x q
    · rw [List.mem_singleton] at q; subst q
      refine ⟨c1, hh.crop, (show (1 : Int) ≤ 3 ∧ (3 : Int) ≤ 3 by decide), sumL_ne (by dsimp only; omega), o1, hh.wet, fun p hp => ?_, ?_⟩
      · obtain ⟨q, hq, e⟩ := c.inF p hp; rw [← e]; exact hh.crops q hq
      · rw [if_pos rfl]
        refine ⟨c4, ?_⟩
        dsimp only
        have e1 : sumL (cutF (s.heaps.getD k default).parts (n * a.per)) = n * a.per := by omega
        rw [e1, Int.mul_emod_left]
  · obtain ⟨y, hy, e⟩ := K.sub g hg
    rw [← e]; exact idx_none (nm := a.other) (by omega) y hy
  · have h1 := K.sum
    have h2 := sum_push (fun h => sumL h.parts) t1.heaps ⟨a.other, (s.heaps.getD k default).crop, 3, cutF (s.heaps.getD k default).parts (n * a.per), a.per, (s.heaps.getD k default).wet, none, 0⟩
    unfold totalS
    rw [e4, e5]
    unfold heapsL at *
    rw [h2]
    dsimp only at *
    omega
  · have h1 := K.left i
    have h2 := sum_push (fun h => ofL h.parts i) t1.heaps ⟨a.other, (s.heaps.getD k default).crop, 3, cutF (s.heaps.getD k default).parts (n * a.per), a.per, (s.heaps.getD k default).wet, none, 0⟩
    have := c.of i
    rw [e4, e5]
    unfold leftL at *
    rw [h2]
    dsimp only at *
    omega
end
/-- What a chore of its kind gives. -/
def moreP (a : Chore) (i : Nat) : Int := if a.kind = 2 ∧ a.plot = (i : Int) then a.loads else 0
theorem Step.more {pl : List Plot} {s t : Store} {f g : Nat → Int} (h : Step pl s t f) (e : ∀ i, f i = g i) : Step pl s t g := (funext e : f = g) ▸ h
theorem work_ok {pl : List Plot} {dry : Int} {s t : Store} {a : Chore} (h : OkS pl s) (hc : checkI pl dry = 0) (e : workP pl dry s a = (0, t)) : Step pl s t (moreP a) := by
  have none : a.kind ≠ 2 → ∀ i, (0 : Int) = moreP a i := fun h2 i => by unfold moreP; rw [if_neg (fun x => h2 x.1)]
  unfold workP at e
  by_cases k1 : a.kind = 1
  · rw [if_pos k1] at e; exact (year_ok h e).more (none (by omega))
  rw [if_neg k1] at e
  by_cases k2 : a.kind = 2
  · rw [if_pos k2] at e
    exact (mow_ok h hc e).more fun i => by unfold moreP; simp only [k2, true_and]
  rw [if_neg k2] at e
  have none := none k2
  obtain ⟨c, e⟩ := pair_zero (by decide) e
  have hk := idx_lt c
  split at e
  · exact (dry_ok h hk e).more none
  split at e
  · exact (comb_ok h hk e).more none
  split at e
  · exact (join_ok h hk e).more none
  split at e
  · exact (bind_ok h hk e).more none
  split at e
  · exact (use_ok h hk e).more none
  · exact (rot_ok h hk e).more none
/-- A chore that goes right leaves a store that may be. -/
theorem do_ok {pl : List Plot} {dry : Int} {s : Store} {a : Chore} (e : (doP pl dry s a).1 = 0) : checkS pl dry s = 0 ∧ checkS pl dry (doP pl dry s a).2 = 0 ∧ Step pl s (doP pl dry s a).2 (moreP a) := by
  unfold doP at e ⊢
  by_cases h1 : checkS pl dry s = 0
  · rw [if_neg (by simp [h1])] at e ⊢
    by_cases h2 : 1 ≤ a.kind ∧ a.kind ≤ 8
    · rw [if_neg (by simp [h2])] at e ⊢
      by_cases h3 : sameChore (namedP a) a = false
      · rw [if_pos h3] at e; exact absurd e (by decide)
      · rw [if_neg h3] at e ⊢
        by_cases h4 : (workP pl dry s a).1 = 0
        · rw [if_neg (by simp [h4])]
          have hw : workP pl dry s a = (0, (workP pl dry s a).2) := Prod.ext h4 rfl
          have q := work_ok (check_ok h1) (checkS_zero h1).1 hw
          exact ⟨h1, q.ok.check (checkS_zero h1).1, q⟩
        · rw [if_pos (by simpa using h4)] at e; exact absurd e h4
    · rw [if_pos h2] at e; exact absurd e (by decide)
  · rw [if_pos (by simpa using h1)] at e; exact absurd e h1
end Go.Proofs.Ytpgkhlpepckfgaa
end
section
namespace Go.Proofs.Ytpgkhlpepckfgaa
open Go.RowKit Go.Lib

set_option maxHeartbeats 2000000 in
set_option maxRecDepth 100000 in
theorem new_okay (A : Option Addr) (c : Nat) (pl : List Plot) (dry : Int) (w : World) (h : RdPlots w A pl) (hck : 0 = checkI pl dry) :
    Calls Try.prog 23 #[.agg #[.slice A pl.length c, .int .i64 dry]] w (NewOut pl dry w) := by
  have hl1 := h.1.1
  · have hlen : pl.length ≤ 1000000 := by have := (checkI_zero hck.symm).1; omega
    have hmk := make_cnt pl.length hlen
    have hca : ∀ W, RdPlots W A pl → Calls Try.prog 25 #[.agg #[.slice A pl.length c, .int .i64 dry]] W fun e w' => e = .returned (.int .i64 0) ∧ Below W.heap.size W w' := fun W hW => hck ▸ check_any A c pl dry W hW
    replace hca := Lib.hid hca
    replace hck := Lib.hid hck.symm
    go_enter Try.func23, Try.ntmps23
    go_wp2_with (go_at_call 25; refine (hca.out _ (h.below (((Below.refl _ w).alloc (Nat.le_refl _) _).alloc (by simp) _))).mono ?_; rintro e w1 ⟨rfl, hb1⟩; obtain ⟨r1, s1⟩ := bcell hb1)
    obtain ⟨B1, hB1⟩ : ∃ B1, B1 = w1.heap.size := ⟨_, rfl⟩
    have z1 : w.heap.size + 1 < w1.heap.size := by have := hb1.size; simp at this; omega
    have z0 : w.heap.size < w1.heap.size := by omega
    have d0 : w1.cell? ⟨w.heap.size, 0, none⟩ = some (.slice A pl.length c) := by go_simp
    have hblk : w1.heap[w.heap.size + 1]? = some (.cells #[.int .i64 0, .slice none 0 0, .slice none 0 0, .slice none 0 0, .slice none 0 0, .slice none 0 0] 43 (0, 0)) := (hb1.block _ (by simp)).trans (heap_new _ _ _ (by simp))
    obtain ⟨e0, e1, e2, e3, e4, e5⟩ : w1.cell? ⟨w.heap.size + 1, 0, none⟩ = some (.int .i64 0) ∧ w1.cell? ⟨w.heap.size + 1, 1, none⟩ = some (.slice none 0 0) ∧ w1.cell? ⟨w.heap.size + 1, 2, none⟩ = some (.slice none 0 0) ∧ w1.cell? ⟨w.heap.size + 1, 3, none⟩ = some (.slice none 0 0) ∧ w1.cell? ⟨w.heap.size + 1, 4, none⟩ = some (.slice none 0 0) ∧ w1.cell? ⟨w.heap.size + 1, 5, none⟩ = some (.slice none 0 0) := by
      refine ⟨?_, ?_, ?_, ?_, ?_, ?_⟩ <;> simp [World.cell?, hblk]
    have fz : ∀ o, w1.frozen? ⟨w.heap.size + 1, o, none⟩ = false := fun o => frozen_four hblk o
    replace hblk := Lib.hid hblk
    replace hB1 := Lib.hid hB1
    clear r1 s1
    have hBw := Lib.hid ((((Below.refl _ w).alloc (Nat.le_refl _) (.cells #[.slice A pl.length c, .int .i64 dry] 24)).alloc (by simp) (.cells #[.int .i64 0, .slice none 0 0, .slice none 0 0, .slice none 0 0, .slice none 0 0, .slice none 0 0] 43)).trans (hb1.mono (by simp; omega)))
    go_region_with (go_at_call 52; first | ((with_reducible refine (repeat_any _ pl.length _ (drew_new _ _ _ rfl) hlen).mono ?_); rintro e w2 ⟨rfl, hr2, hb2⟩; simp only [World.size_drew, World.size_alloc] at hr2; replace hr2 := Lib.hid hr2; obtain ⟨r2, s2⟩ := bcell hb2; have z2 : w.heap.size + 1 < w2.heap.size := (by have := hb2.size; simp only [World.size_alloc, World.size_drew] at this; omega)) | ((with_reducible refine (repeat_any _ pl.length _ (drew_old _ _ _ _ (heap_new _ _ _ rfl)) hlen).mono ?_); rintro e w2 ⟨rfl, hr2, hb2⟩; simp only [World.size_drew, World.size_alloc] at hr2; replace hr2 := Lib.hid hr2; obtain ⟨r2, s2⟩ := bcell hb2; have z2 : w.heap.size + 1 < w2.heap.size := (by have := hb2.size; simp only [World.size_alloc, World.size_drew] at this; omega)) | ((with_reducible refine (repeat_any _ pl.length _ (drew_new _ _ _ (by simp)) hlen).mono ?_); rintro e w2 ⟨rfl, hr2, hb2⟩; simp only [World.size_drew, World.size_alloc] at hr2; replace hr2 := Lib.hid hr2; obtain ⟨r2, s2⟩ := bcell hb2; have z2 : w.heap.size + 1 < w2.heap.size := (by have := hb2.size; simp only [World.size_alloc, World.size_drew] at this; omega)))
    all_goals go_wp2
    all_goals first
      | (obtain ⟨Wf, hWf⟩ : ∃ Wf, Wf = (S6 w2 (w.heap.size + 1) pl.length (w1.heap.size + 1) w2.heap.size).alloc (.cells (cntRow pl.length fun _ => 0) 3) := ⟨_, rfl⟩
         have F : NewFin w pl.length Wf (w1.heap.size + 1) (w2.heap.size) := by rw [hWf]; exact newfin_A hr2.out ((hb2.block _ (by simp; omega)).trans (drew_old _ _ _ _ hblk.out)) (hBw.out.trans ((((Below.refl _ w1).alloc (Nat.le_refl _) _).drew.trans (hb2.mono (by simp))).mono hBw.out.size)) (by omega)
         unfold S6 at hWf
         rw [← hWf]
         replace hWf := Lib.hid hWf
         exact new_close F hck.out hlen rfl rfl rfl)
      | (obtain ⟨Wf, hWf⟩ : ∃ Wf, Wf = S6 w2 (w.heap.size + 1) pl.length (w1.heap.size + 1 + 1) (w1.heap.size + 1) := ⟨_, rfl⟩
         have F : NewFin w pl.length Wf (w1.heap.size + 1 + 1) (w1.heap.size + 1) := by rw [hWf]; exact newfin_B hr2.out ((hb2.block _ (by simp)).trans (drew_old _ _ _ _ (heap_new _ _ _ (by simp)))) ((hb2.block _ (by simp; omega)).trans (drew_old _ _ _ _ (heap_old _ _ _ _ hblk.out))) (hBw.out.trans (((((Below.refl _ w1).alloc (Nat.le_refl _) _).alloc (by simp) _).drew.trans (hb2.mono (by simp; omega))).mono hBw.out.size)) (by omega) (by omega)
         unfold S6 at hWf
         rw [← hWf]
         replace hWf := Lib.hid hWf
         exact new_close F hck.out hlen rfl rfl rfl)
      | (obtain ⟨Wf, hWf⟩ : ∃ Wf, Wf = S6 w2 (w.heap.size + 1) pl.length (w1.heap.size + 1 + 1) (w1.heap.size + 1) := ⟨_, rfl⟩
         have F : NewFin w pl.length Wf (w1.heap.size + 1 + 1) (w1.heap.size + 1) := by rw [hWf]; exact newfin_B hr2.out ((hb2.block _ (by simp)).trans (drew_new _ _ _ (by simp))) ((hb2.block _ (by simp; omega)).trans (drew_old _ _ _ _ (heap_old _ _ _ _ hblk.out))) (hBw.out.trans (((((Below.refl _ w1).alloc (Nat.le_refl _) _).alloc (by simp) _).drew.trans (hb2.mono (by simp; omega))).mono hBw.out.size)) (by omega) (by omega)
         unfold S6 at hWf
         rw [← hWf]
         replace hWf := Lib.hid hWf
         exact new_close F hck.out hlen rfl rfl rfl)
      | (obtain ⟨Wf, hWf⟩ : ∃ Wf, Wf = S6 w2 (w.heap.size + 1) pl.length (w1.heap.size + 1 + 1) w1.heap.size := ⟨_, rfl⟩
         have F : NewFin w pl.length Wf (w1.heap.size + 1 + 1) (w1.heap.size) := by rw [hWf]; exact newfin_B hr2.out ((hb2.block _ (by simp; omega)).trans (drew_old _ _ _ _ (heap_new _ _ _ rfl))) ((hb2.block _ (by simp; omega)).trans (drew_old _ _ _ _ (heap_old _ _ _ _ hblk.out))) (hBw.out.trans (((((Below.refl _ w1).alloc (Nat.le_refl _) _).alloc (by simp) _).drew.trans (hb2.mono (by simp; omega))).mono hBw.out.size)) (by omega) (by omega)
         unfold S6 at hWf
         rw [← hWf]
         replace hWf := Lib.hid hWf
         exact new_close F hck.out hlen rfl rfl rfl)
end Go.Proofs.Ytpgkhlpepckfgaa
end
section
namespace Go.Proofs.Ytpgkhlpepckfgaa
open Go.RowKit Go.Lib

abbrev SS6 (W : World) (b : Nat) (v1 v2 : Value) : World := (((((W.setCell ⟨b, 0, none⟩ (.int .i64 0)).setCell ⟨b, 1, none⟩ v1).setCell ⟨b, 2, none⟩ v2).setCell ⟨b, 3, none⟩ (.slice none 0 0)).setCell ⟨b, 4, none⟩ (.slice none 0 0)).setCell ⟨b, 5, none⟩ (.slice none 0 0)
/-- A store that is no store: what is returned beside an error. -/
theorem new_none {pl : List Plot} {dry : Int} {w W : World} {a0 a1 a2 a3 a4 a5 : Value} (hb : W.heap[w.heap.size + 1]? = some (.cells #[a0, a1, a2, a3, a4, a5] 43 (0, 0))) (hB : Below w.heap.size w W) (hck : checkI pl dry ≠ 0) :
    (SS6 W (w.heap.size + 1) (.slice none 0 0) (.slice none 0 0)).heap[w.heap.size + 1]? = some (.cells #[.int .i64 0, .slice none 0 0, .slice none 0 0, .slice none 0 0, .slice none 0 0, .slice none 0 0] 43 (0, 0)) ∧
    NewOut pl dry w (.returned (.tuple #[.agg #[.int .i64 0, .slice none 0 0, .slice none 0 0, .slice none 0 0, .slice none 0 0, .slice none 0 0], .int .i64 (checkI pl dry)])) (SS6 W (w.heap.size + 1) (.slice none 0 0) (.slice none 0 0)) := by
  refine ⟨set6 _ _ _ _ _ _ hb, ⟨0, [], [], [], [], [], none, 0, none, 0, none, 0, none, 0, none, 0⟩, rfl, ?_, ?_, set6_below _ _ _ _ _ _ hB (by omega)⟩
  · exact ⟨⟨by simp, by simp⟩, ⟨by simp, by simp⟩, ⟨⟨by simp, by simp⟩, by simp⟩, ⟨by simp, by simp⟩, ⟨by simp, by simp⟩⟩
  · unfold newS; rw [if_neg hck]; exact ⟨rfl, rfl, rfl, rfl, rfl, rfl, fun i h1 _ => absurd h1 (Nat.not_lt_zero _)⟩
theorem six_of {w : World} {b : Nat} {v0 v1 v2 v3 v4 v5 : Value} {t : TypeId} (h : w.heap[b]? = some (.cells #[v0, v1, v2, v3, v4, v5] t (0, 0))) : w.cell? ⟨b, 0, none⟩ = some v0 ∧ w.cell? ⟨b, 1, none⟩ = some v1 ∧ w.cell? ⟨b, 2, none⟩ = some v2 ∧ w.cell? ⟨b, 3, none⟩ = some v3 ∧ w.cell? ⟨b, 4, none⟩ = some v4 ∧ w.cell? ⟨b, 5, none⟩ = some v5 ∧ ∀ o, w.frozen? ⟨b, o, none⟩ = false := by
  refine ⟨?_, ?_, ?_, ?_, ?_, ?_, fun o => frozen_four h o⟩ <;> simp [World.cell?, h]
end Go.Proofs.Ytpgkhlpepckfgaa
end
section
namespace Go.Proofs.Ytpgkhlpepckfgaa
open Go.RowKit Go.Lib

set_option maxHeartbeats 1000000 in
set_option maxRecDepth 100000 in
theorem new_bad (A : Option Addr) (c : Nat) (pl : List Plot) (dry : Int) (w : World) (h : RdPlots w A pl) (hc : checkI pl dry ≠ 0) :
    Calls Try.prog 23 #[.agg #[.slice A pl.length c, .int .i64 dry]] w (NewOut pl dry w) := by
  have hl1 := h.1.1
  obtain ⟨ck, hck⟩ : ∃ ck, ck = checkI pl dry := ⟨_, rfl⟩
  have hc0 : ¬ ck = 0 := by rw [hck]; exact hc
  have hBz : Hid (Below w.heap.size w ((w.alloc (.cells #[.slice A pl.length c, .int .i64 dry] 24)).alloc (.cells #[.int .i64 0, .slice none 0 0, .slice none 0 0, .slice none 0 0, .slice none 0 0, .slice none 0 0] 43))) := ((Below.refl _ w).alloc (Nat.le_refl _) _).alloc (by simp) _
  have hca : ∀ W, RdPlots W A pl → Calls Try.prog 25 #[.agg #[.slice A pl.length c, .int .i64 dry]] W fun e w' => e = .returned (.int .i64 ck) ∧ Below W.heap.size W w' := fun W hW => hck ▸ check_any A c pl dry W hW
  replace hca := Lib.hid hca
  have hcb : (ck != 0) = true := bne_iff_ne.2 hc0
  have hck0 : Hid (checkI pl dry ≠ 0) := hc
  replace hck := Lib.hid hck
  go_enter Try.func23, Try.ntmps23
  go_wp2_with (go_at_call 25; refine (hca.out _ (h.below hBz.out)).mono ?_; rintro e w1 ⟨rfl, hb1⟩; have z1 : w.heap.size + 1 < w1.heap.size := (by have := hb1.size; simp at this; omega); have hres := (hb1.block (w.heap.size + 1) (by simp)).trans (heap_new _ _ _ (by simp)); obtain ⟨g1, g2, g3, g4, g5, g6, fz⟩ := six_of hres; replace hres := Lib.hid hres)
  obtain ⟨hfo, hnew⟩ := new_none (pl := pl) (dry := dry) hres.out (hBz.out.trans (hb1.mono hBz.out.size)) hck0.out
  obtain ⟨Wf, hWf⟩ : ∃ Wf, Wf = SS6 w1 (w.heap.size + 1) (.slice none 0 0) (.slice none 0 0) := ⟨_, rfl⟩
  rw [← hWf] at hfo hnew
  unfold SS6 at hWf
  rw [← hWf]
  obtain ⟨c0, c1, c2, c3, c4, c5, _⟩ := six_of hfo
  rw [← hck.out] at hnew
  exact bodyPost_ret (v := .tuple #[.agg #[.int .i64 0, .slice none 0 0, .slice none 0 0, .slice none 0 0, .slice none 0 0, .slice none 0 0], .int .i64 ck]) (by simp [results, Try.results23, go_sem, c0, c1, c2, c3, c4, c5]) rfl hnew

theorem new_any (A : Option Addr) (c : Nat) (pl : List Plot) (dry : Int) (w : World) (h : RdPlots w A pl) :
    Calls Try.prog 23 #[.agg #[.slice A pl.length c, .int .i64 dry]] w (NewOut pl dry w) := by
  by_cases hc : checkI pl dry = 0
  · exact new_okay A c pl dry w h hc.symm
  · exact new_bad A c pl dry w h hc
end Go.Proofs.Ytpgkhlpepckfgaa
end
section
namespace Go.Proofs.Ytpgkhlpepckfgaa
open Go.RowKit Go.Lib
theorem SameC.sameS {s t : Store} (h : SameC s t) : SameS s t := by
  replace h := h.symm
  refine ⟨h.year, h.last, h.given, h.used, h.waste, h.len, fun i hs ht => ?_⟩
  have e := congrArg (fun l => l[i]?) h.heaps
  simp only [List.getElem?_map, List.getElem?_eq_getElem hs, List.getElem?_eq_getElem ht, Option.map_some, Option.some.injEq] at e
  unfold bareH at e
  obtain ⟨a, b, c, d, e1, f, _, _⟩ := Heap.mk.inj e
  exact ⟨a, b, c, d, e1, f⟩
end Go.Proofs.Ytpgkhlpepckfgaa
end
