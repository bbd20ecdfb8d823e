/-
  A region that draws its order: what only reads is taken first, in a class of worlds that every operation but the last keeps; what is left comes in a row. No program is named here. A region that draws its order, with operations that read, operations that only compute, and effects, some of them late ones: what reads is taken ahead of the late effects. No program is named here. A region that draws its order, where two operations may come up at once: both ways are walked. No program is named here.
-/
import Derived.Test.YthojfhdenfhjfaaDoorRa03
import Derived.OrdersHeld
set_option linter.all false
set_option linter.unusedVariables false
set_option linter.unusedSimpArgs false
section
namespace Go.Proofs.YthojfhdenfhjfaaDoor
open Go

section
variable {P : Program} {ops : Array Oper} {md : Region.Mode} {S : World → Prop} {Q : Exit → Act → World → Prop}

/-- Whatever order is picked from here on, and S holds behind every operation but number n. -/
def wpAnyM (P : Program) (md : Region.Mode) (ops : Array Oper) (Q : Exit → Act → World → Prop) (S : World → Prop) (n : Nat) : Nat → Array Bool → Act → World → Prop
  | 0, listed, a, w => Region.ready md ops listed = [] ∧ Q .normal a w
  | fuel + 1, listed, a, w =>
    (Region.ready md ops listed = [] → Q .normal a w) ∧
    ∀ i ∈ Region.ready md ops listed, wpOp P ops Q i (fun a' w' => (i ≠ n → S w') ∧ wpAnyM P md ops Q S n fuel (listed.setIfInBounds i true) a' w') a w

theorem wpAny_of_M {n : Nat} : ∀ (fuel : Nat) (listed : Array Bool) (a : Act) (w : World), wpAnyM P md ops Q S n fuel listed a w → wpAny P md ops Q fuel listed a w
  | 0, _, _, _, h => h
  | fuel + 1, _, _, _, h => ⟨h.1, fun i hi => wpOp_mono (fun a' w' h' => wpAny_of_M fuel _ a' w' h'.2) (h.2 i hi)⟩

theorem wpAnyM_first {n i : Nat} {oi : Oper} {v : Value} (hin : i < n) (hnx : Nexts md ops n) (hi : ops[i]? = some oi) (hsel : ∀ (j : Nat) (o : Oper) cs b, ops[j]? = some o → o.op ≠ .select cs b)
    (hQ : ∀ c a w, Q (.panic c) (a.put oi.dst v) w → Q (.panic c) a w) :
    ∀ (fuel : Nat) (listed : Array Bool) (a : Act) (w : World), Closed md ops listed →
      (∀ j oj, ops[j]? = some oj → j ≠ i → listed.getD j true = false → (∀ e ∈ oj.after, Region.binds md e = true → e.on ≠ i) → oi.apart ops oj = true) →
      i ∈ Region.ready md ops listed → YieldsIf P ops S oi v a → S w →
      wpAnyM P md ops Q S n fuel (listed.setIfInBounds i true) (a.put oi.dst v) w → wpAnyM P md ops Q S n (fuel + 1) listed a w := by
  have hnot : ∀ listed, Closed md ops listed → i ∈ Region.ready md ops listed → n ∉ Region.ready md ops listed := fun listed hc hr => last_waits hc hnx _ i rfl hin (getD_un (mem_ready.1 hr).1)
  intro fuel
  induction fuel with
  | zero =>
    intro listed a w _ _ hr hy hS H
    refine ⟨fun h => (by rw [h] at hr; cases hr), fun j hj => ?_⟩
    by_cases hji : j = i
    · subst hji; exact hy.wpOp hi hS ⟨fun _ => hS, H⟩
    · have := ready_mono hj hji
      rw [H.1] at this
      cases this
  | succ fuel ih =>
    intro listed a w hc hfree hr hy hS H
    refine ⟨fun h => (by rw [h] at hr; cases hr), fun j hj => ?_⟩
    by_cases hji : j = i
    · subst hji; exact hy.wpOp hi hS ⟨fun _ => hS, H⟩
    · have hjn : j ≠ n := fun e => hnot _ hc hr (e ▸ hj)
      have h1 := H.2 j (ready_mono hj hji)
      obtain ⟨hjun, oj, hoj, hall⟩ := mem_ready.1 hj
      have hnw : ∀ e ∈ oj.after, Region.binds md e = true → e.on ≠ i := fun e he hb heq => by
        have h1 := hall e he hb
        have h0 := (mem_ready.1 hr).1
        rw [heq] at h1
        rcases Nat.lt_or_ge i listed.size with h' | h'
        · simp [h'] at h0 h1; rw [h0] at h1; cases h1
        · simp [Array.getElem?_eq_none h'] at h1
      have h2 := wpOp_putIf hoj (hfree j oj hoj hji hjun hnw) (fun cs b => hsel i oi cs b hi) (fun cs b => hsel j oj cs b hoj) hQ hy h1
      have hfree' : ∀ k ok, ops[k]? = some ok → k ≠ i → (listed.setIfInBounds j true).getD k true = false →
          (∀ e ∈ ok.after, Region.binds md e = true → e.on ≠ i) → oi.apart ops ok = true := fun k ok hk hki hun hno => by
        refine hfree k ok hk hki ?_ hno
        by_cases hjk : j = k
        · subst hjk; exact hjun
        · rw [getD_set_ne true hjk] at hun; exact hun
      refine wpOp_mono (fun a' w' h3 => ⟨h3.2.1, ih (listed.setIfInBounds j true) a' w' (hc.set hj) hfree' (ready_mono hr (Ne.symm hji)) h3.1 (h3.2.1 hjn) ?_⟩) h2
      rw [Array.setIfInBounds_comm _ _ hji]
      exact h3.2.2

/-- The moves, in a row: true: taken first; false: carried out, when it alone may come up. -/
def wpSeq (P : Program) (ops : Array Oper) (Q : Exit → Act → World → Prop) (S : World → Prop) (n : Nat) : List (Nat × Bool) → Act → World → Prop
  | [], a, w => Q .normal a w
  | (i, true) :: l, a, w => ∃ o v, ops[i]? = some o ∧ YieldsIf P ops S o v a ∧ (∀ c a w, Q (.panic c) (a.put o.dst v) w → Q (.panic c) a w) ∧ wpSeq P ops Q S n l (a.put o.dst v) w
  | (i, false) :: l, a, w => wpOp P ops Q i (fun a' w' => (i ≠ n → S w') ∧ wpSeq P ops Q S n l a' w') a w
def seqOk (md : Region.Mode) (ops : Array Oper) (n : Nat) : List (Nat × Bool) → Array Bool → Bool
  | [], listed => (Region.ready md ops listed).isEmpty
  | (i, true) :: l, listed => (Region.ready md ops listed).contains i && Region.free md ops listed i && decide (i < n) && seqOk md ops n l (listed.setIfInBounds i true)
  | (i, false) :: l, listed => (Region.ready md ops listed == [i]) && (l.isEmpty || i != n) && seqOk md ops n l (listed.setIfInBounds i true)

theorem wpAnyM_seq {n : Nat} (hnx : Nexts md ops n) (hs : Region.noSelect ops = true) : ∀ (l : List (Nat × Bool)) (listed : Array Bool) (a : Act) (w : World), Closed md ops listed → (l ≠ [] → S w) → seqOk md ops n l listed = true → wpSeq P ops Q S n l a w → wpAnyM P md ops Q S n l.length listed a w
  | [], _, _, _, _, _, hB, h => ⟨by simpa [seqOk] using hB, h⟩
  | (i, true) :: l, listed, a, w, hc, hS, hB, h => by
    simp only [seqOk, Bool.and_eq_true] at hB
    obtain ⟨⟨⟨hr, hf⟩, hlt⟩, hB'⟩ := hB
    obtain ⟨o, v, ho, hy, hQ, hK⟩ := h
    have hr' : i ∈ Region.ready md ops listed := by simpa using hr
    exact wpAnyM_first (of_decide_eq_true hlt) hnx ho (Region.noSelect_spec hs) hQ l.length listed a w hc (Region.free_spec ho hf) hr' hy (hS (by simp))
      (wpAnyM_seq hnx hs l _ _ _ (hc.set hr') (fun _ => hS (by simp)) hB' hK)
  | (i, false) :: l, listed, a, w, hc, hS, hB, h => by
    simp only [seqOk, Bool.and_eq_true, beq_iff_eq] at hB
    obtain ⟨⟨hr, hln⟩, hB'⟩ := hB
    have hr' : i ∈ Region.ready md ops listed := by rw [hr]; simp
    refine ⟨fun h0 => (by rw [h0] at hr; cases hr), fun j hj => ?_⟩
    rw [hr] at hj
    have : j = i := by simpa using hj
    subst this
    refine wpOp_mono (fun a' w' h' => ⟨h'.1, wpAnyM_seq hnx hs l _ a' w' (hc.set hr') (fun hne => h'.1 ?_) hB' h'.2⟩) h
    rcases Bool.or_eq_true_iff.1 hln with h1 | h1
    · exact absurd (List.isEmpty_iff.1 h1) hne
    · simpa using h1

def seqB (ops : Array Oper) (l : List (Nat × Bool)) (n : Nat) : Bool := Region.noSelect ops && (ops.size == l.length) && nextsB .any ops n && seqOk .any ops n l (Array.replicate ops.size false)
/-- **The moves in a row serve every order.** -/
theorem wp_region_seq {id : Nat} {a : Act} {w : World} {lo : List Oper} (S : World → Prop) (l : List (Nat × Bool)) (n : Nat) (hm : P.follows .mixedOrders = true) (hB : seqB lo.toArray l n = true) (hS : S w.drew)
    (h : wpSeq P lo.toArray Q S n l a w.drew) : (Code.region id lo.toArray true).wp P Q a w := by
  unfold seqB at hB
  simp only [Bool.and_eq_true, beq_iff_eq] at hB
  obtain ⟨⟨⟨hs, hz⟩, hnx⟩, hL⟩ := hB
  refine wp_region_any hm ?_
  have hcl : Closed .any lo.toArray (Array.replicate lo.toArray.size false) := fun j o _ hl => by
    rw [show (Array.replicate lo.toArray.size false).getD j false = false by simp [Array.getD_eq_getD_getElem?, Array.getElem?_replicate]; split <;> rfl] at hl; cases hl
  have := wpAny_of_M _ _ _ _ (wpAnyM_seq (nexts_of hnx) hs l (Array.replicate lo.toArray.size false) a w.drew hcl (fun _ => hS) hL h)
  rw [hz]
  rw [hz] at this
  exact this
/-- One that is taken first. -/
theorem wpSeq_take {n i : Nat} {o : Oper} {v : Value} {l : List (Nat × Bool)} {a : Act} {w : World} (ho : ops[i]? = some o) (hw : Region.wanted o (yielded ops a.tmps) = true) (hy : ∀ w, S w → (execOp a.eval o).run P w = .ok (.value v) w)
    (hQ : ∀ c a w, Q (.panic c) (a.put o.dst v) w → Q (.panic c) a w) (h : wpSeq P ops Q S n l (a.put o.dst v) w) : wpSeq P ops Q S n ((i, true) :: l) a w := ⟨o, v, ho, .inl ⟨hw, hy⟩, hQ, h⟩
/-- One that is carried out. -/
theorem wpSeq_do {n i : Nat} {o : Oper} {l : List (Nat × Bool)} {a : Act} {w : World} (ho : ops[i]? = some o) (hw : Region.wanted o (yielded ops a.tmps) = true) (h : o.wp P a w (fun a' w' => (i ≠ n → S w') ∧ wpSeq P ops Q S n l a' w') Q) : wpSeq P ops Q S n ((i, false) :: l) a w := by
  show wpOp P ops Q i _ a w
  unfold wpOp
  simp only [ho, hw, if_true]
  exact .inl h
end
end Go.Proofs.YthojfhdenfhjfaaDoor
end
section
namespace Go.Proofs.YthojfhdenfhjfaaDoor
open Go

section
variable {P : Program} {ops : Array Oper} {md : Region.Mode} {S : World → Prop} {Q : Exit → Act → World → Prop} {L : List Nat}

/-- Whatever order is picked from here on, and S is kept by every operation but the late ones. -/
def wpAnyL2 (P : Program) (md : Region.Mode) (ops : Array Oper) (Q : Exit → Act → World → Prop) (S : World → Prop) (L : List Nat) : Nat → Array Bool → Act → World → Prop
  | 0, listed, a, w => Region.ready md ops listed = [] ∧ Q .normal a w
  | fuel + 1, listed, a, w =>
    (Region.ready md ops listed = [] → Q .normal a w) ∧
    ∀ i ∈ Region.ready md ops listed, wpOp P ops Q i (fun a' w' => (i ∉ L → S w → S w') ∧ wpAnyL2 P md ops Q S L fuel (listed.setIfInBounds i true) a' w') a w

theorem wpAny_of_L2 : ∀ (fuel : Nat) (listed : Array Bool) (a : Act) (w : World), wpAnyL2 P md ops Q S L fuel listed a w → wpAny P md ops Q fuel listed a w
  | 0, _, _, _, h => h
  | fuel + 1, _, _, _, h => ⟨h.1, fun i hi => wpOp_mono (fun a' w' h' => wpAny_of_L2 fuel _ a' w' h'.2) (h.2 i hi)⟩

theorem wpAnyL2_pure {i : Nat} {oi : Oper} {v : Value} (hi : ops[i]? = some oi) (hsel : ∀ (j : Nat) (o : Oper) cs b, ops[j]? = some o → o.op ≠ .select cs b)
    (hQ : ∀ c a w, Q (.panic c) (a.put oi.dst v) w → Q (.panic c) a w) :
    ∀ (fuel : Nat) (listed : Array Bool) (a : Act) (w : World),
      (∀ j oj, ops[j]? = some oj → j ≠ i → listed.getD j true = false → (∀ e ∈ oj.after, Region.binds md e = true → e.on ≠ i) → oi.apart ops oj = true) →
      i ∈ Region.ready md ops listed → YieldsIf P ops (fun _ => True) oi v a →
      wpAnyL2 P md ops Q S L fuel (listed.setIfInBounds i true) (a.put oi.dst v) w → wpAnyL2 P md ops Q S L (fuel + 1) listed a w := by
  intro fuel
  induction fuel with
  | zero =>
    intro listed a w _ hr hy H
    refine ⟨fun h => (by rw [h] at hr; cases hr), fun j hj => ?_⟩
    by_cases hji : j = i
    · subst hji; exact hy.wpOp hi trivial ⟨fun _ h => h, H⟩
    · have := ready_mono hj hji
      rw [H.1] at this
      cases this
  | succ fuel ih =>
    intro listed a w hfree hr hy H
    refine ⟨fun h => (by rw [h] at hr; cases hr), fun j hj => ?_⟩
    by_cases hji : j = i
    · subst hji; exact hy.wpOp hi trivial ⟨fun _ h => h, H⟩
    · have h1 := H.2 j (ready_mono hj hji)
      obtain ⟨hjun, oj, hoj, hall⟩ := mem_ready.1 hj
      have hnw : ∀ e ∈ oj.after, Region.binds md e = true → e.on ≠ i := fun e he hb heq => by
        have h1 := hall e he hb
        have h0 := (mem_ready.1 hr).1
        rw [heq] at h1
        rcases Nat.lt_or_ge i listed.size with h' | h'
        · simp [h'] at h0 h1; rw [h0] at h1; cases h1
        · simp [Array.getElem?_eq_none h'] at h1
      have h2 := wpOp_putIf hoj (hfree j oj hoj hji hjun hnw) (fun cs b => hsel i oi cs b hi) (fun cs b => hsel j oj cs b hoj) hQ hy h1
      have hfree' : ∀ k ok, ops[k]? = some ok → k ≠ i → (listed.setIfInBounds j true).getD k true = false →
          (∀ e ∈ ok.after, Region.binds md e = true → e.on ≠ i) → oi.apart ops ok = true := fun k ok hk hki hun hno => by
        refine hfree k ok hk hki ?_ hno
        by_cases hjk : j = k
        · subst hjk; exact hjun
        · rw [getD_set_ne true hjk] at hun; exact hun
      refine wpOp_mono (fun a' w' h3 => ⟨h3.2.1, ih (listed.setIfInBounds j true) a' w' hfree' (ready_mono hr (Ne.symm hji)) h3.1 ?_⟩) h2
      rw [Array.setIfInBounds_comm _ _ hji]
      exact h3.2.2

theorem wpAnyL2_read {i : Nat} {oi : Oper} {v : Value} (hL : ∀ listed : Array Bool, Closed md ops listed → listed.getD i false = false → ∀ j ∈ L, j ∉ Region.ready md ops listed) (hi : ops[i]? = some oi) (hsel : ∀ (j : Nat) (o : Oper) cs b, ops[j]? = some o → o.op ≠ .select cs b)
    (hQ : ∀ c a w, Q (.panic c) (a.put oi.dst v) w → Q (.panic c) a w) :
    ∀ (fuel : Nat) (listed : Array Bool) (a : Act) (w : World), Closed md ops listed →
      (∀ j oj, ops[j]? = some oj → j ≠ i → listed.getD j true = false → (∀ e ∈ oj.after, Region.binds md e = true → e.on ≠ i) → oi.apart ops oj = true) →
      i ∈ Region.ready md ops listed → YieldsIf P ops S oi v a → S w →
      wpAnyL2 P md ops Q S L fuel (listed.setIfInBounds i true) (a.put oi.dst v) w → wpAnyL2 P md ops Q S L (fuel + 1) listed a w := by
  intro fuel
  induction fuel with
  | zero =>
    intro listed a w _ _ hr hy hS H
    refine ⟨fun h => (by rw [h] at hr; cases hr), fun j hj => ?_⟩
    by_cases hji : j = i
    · subst hji; exact hy.wpOp hi hS ⟨fun _ h => h, H⟩
    · have := ready_mono hj hji
      rw [H.1] at this
      cases this
  | succ fuel ih =>
    intro listed a w hc hfree hr hy hS H
    refine ⟨fun h => (by rw [h] at hr; cases hr), fun j hj => ?_⟩
    by_cases hji : j = i
    · subst hji; exact hy.wpOp hi hS ⟨fun _ h => h, H⟩
    · have hjn : j ∉ L := fun e => hL listed hc (getD_un (mem_ready.1 hr).1) j e hj
      have h1 := H.2 j (ready_mono hj hji)
      obtain ⟨hjun, oj, hoj, hall⟩ := mem_ready.1 hj
      have hnw : ∀ e ∈ oj.after, Region.binds md e = true → e.on ≠ i := fun e he hb heq => by
        have h1 := hall e he hb
        have h0 := (mem_ready.1 hr).1
        rw [heq] at h1
        rcases Nat.lt_or_ge i listed.size with h' | h'
        · simp [h'] at h0 h1; rw [h0] at h1; cases h1
        · simp [Array.getElem?_eq_none h'] at h1
      have h2 := wpOp_putIf hoj (hfree j oj hoj hji hjun hnw) (fun cs b => hsel i oi cs b hi) (fun cs b => hsel j oj cs b hoj) hQ hy h1
      have hfree' : ∀ k ok, ops[k]? = some ok → k ≠ i → (listed.setIfInBounds j true).getD k true = false →
          (∀ e ∈ ok.after, Region.binds md e = true → e.on ≠ i) → oi.apart ops ok = true := fun k ok hk hki hun hno => by
        refine hfree k ok hk hki ?_ hno
        by_cases hjk : j = k
        · subst hjk; exact hjun
        · rw [getD_set_ne true hjk] at hun; exact hun
      refine wpOp_mono (fun a' w' h3 => ⟨h3.2.1, ih (listed.setIfInBounds j true) a' w' (hc.set hj) hfree' (ready_mono hr (Ne.symm hji)) h3.1 (h3.2.1 hjn hS) ?_⟩) h2
      rw [Array.setIfInBounds_comm _ _ hji]
      exact h3.2.2

def waitsHere (md : Region.Mode) (ops : Array Oper) (acc : List Nat) (j : Nat) : Bool := match ops[j]? with | some o => o.after.any fun e => Region.binds md e && acc.contains e.on | none => false
/-- Those that wait, by some way, for number i. -/
def waitsFor (md : Region.Mode) (ops : Array Oper) (i : Nat) : List Nat → List Nat → List Nat
  | [], acc => acc
  | j :: l, acc => waitsFor md ops i l (if waitsHere md ops acc j then j :: acc else acc)
theorem waitsFor_sound {i : Nat} {listed : Array Bool} (hc : Closed md ops listed) (hu : listed.getD i false = false) : ∀ (l acc : List Nat), (∀ j ∈ acc, j = i ∨ (listed.getD j false = false ∧ j ∉ Region.ready md ops listed)) → ∀ j ∈ waitsFor md ops i l acc, j = i ∨ (listed.getD j false = false ∧ j ∉ Region.ready md ops listed)
  | [], _, h => h
  | k :: l, acc, h => by
    unfold waitsFor
    refine waitsFor_sound hc hu l _ ?_
    split
    case isFalse => exact h
    case isTrue hk =>
      intro j hj
      rcases List.mem_cons.1 hj with rfl | hj
      · right
        unfold waitsHere at hk
        cases ho : ops[j]? with
        | none => rw [ho] at hk; cases hk
        | some o =>
          rw [ho] at hk
          obtain ⟨e, he, hb⟩ := Array.any_eq_true'.1 hk
          rw [Bool.and_eq_true] at hb
          have hun : listed.getD e.on false = false := by
            rcases h e.on (by simpa using hb.2) with h1 | h1
            · rw [h1]; exact hu
            · exact h1.1
          refine ⟨?_, fun hr => ?_⟩
          · cases q : listed.getD j false with
            | false => rfl
            | true => rw [hc j o ho q e he hb.1] at hun; cases hun
          · obtain ⟨_, o', ho', hall⟩ := mem_ready.1 hr
            rw [ho] at ho'; cases ho'
            rw [hall e he hb.1] at hun; cases hun
      · exact h j hj
def lateB (md : Region.Mode) (ops : Array Oper) (L : List Nat) (i : Nat) : Bool := !L.contains i && L.all fun j => (waitsFor md ops i (List.range ops.size) [i]).contains j
theorem late_of {i : Nat} (h : lateB md ops L i = true) (listed : Array Bool) (hc : Closed md ops listed) (hu : listed.getD i false = false) : ∀ j ∈ L, j ∉ Region.ready md ops listed := fun j hj => by
  unfold lateB at h
  rw [Bool.and_eq_true] at h
  have h1 := List.all_eq_true.1 h.2 j hj
  rcases waitsFor_sound hc hu (List.range ops.size) [i] (fun k hk => by simp at hk; exact .inl hk) j (by simpa using h1) with h2 | h2
  · subst h2
    have := h.1
    simp at this
    exact absurd hj this
  · exact h2.2

/-- The moves, in a row: 0: one that only computes, taken first; 1: one that reads, taken first; 2: carried out, when it alone may come up. -/
def wpSeqs (P : Program) (ops : Array Oper) (Q : Exit → Act → World → Prop) (S : World → Prop) (L : List Nat) : List (Nat × Nat) → Act → World → Prop
  | [], a, w => Q .normal a w
  | (i, 0) :: l, a, w => ∃ o v, ops[i]? = some o ∧ YieldsIf P ops (fun _ => True) o v a ∧ (∀ c a w, Q (.panic c) (a.put o.dst v) w → Q (.panic c) a w) ∧ wpSeqs P ops Q S L l (a.put o.dst v) w
  | (i, 1) :: l, a, w => ∃ o v, ops[i]? = some o ∧ YieldsIf P ops S o v a ∧ (∀ c a w, Q (.panic c) (a.put o.dst v) w → Q (.panic c) a w) ∧ wpSeqs P ops Q S L l (a.put o.dst v) w
  | (i, _) :: l, a, w => wpOp P ops Q i (fun a' w' => (i ∉ L → S w → S w') ∧ wpSeqs P ops Q S L l a' w') a w
def seqsOk (md : Region.Mode) (ops : Array Oper) (L : List Nat) : List (Nat × Nat) → Bool → Array Bool → Bool
  | [], _, listed => (Region.ready md ops listed).isEmpty
  | (i, 0) :: l, late, listed => (Region.ready md ops listed).contains i && Region.free md ops listed i && seqsOk md ops L l late (listed.setIfInBounds i true)
  | (i, 1) :: l, late, listed => (Region.ready md ops listed).contains i && Region.free md ops listed i && (!late && lateB md ops L i) && seqsOk md ops L l late (listed.setIfInBounds i true)
  | (i, _) :: l, late, listed => (Region.ready md ops listed == [i]) && seqsOk md ops L l (late || L.contains i) (listed.setIfInBounds i true)

theorem wpAnyL2_seq (hs : Region.noSelect ops = true) : ∀ (l : List (Nat × Nat)) (late : Bool) (listed : Array Bool) (a : Act) (w : World), Closed md ops listed → (late = false → S w) → seqsOk md ops L l late listed = true → wpSeqs P ops Q S L l a w → wpAnyL2 P md ops Q S L l.length listed a w
  | [], _, _, _, _, _, _, hB, h => ⟨by simpa [seqsOk] using hB, h⟩
  | (i, 0) :: l, late, listed, a, w, hc, hS, hB, h => by
    simp only [seqsOk, Bool.and_eq_true] at hB
    obtain ⟨⟨hr, hf⟩, hB'⟩ := hB
    obtain ⟨o, v, ho, hy, hQ, hK⟩ := h
    have hr' : i ∈ Region.ready md ops listed := by simpa using hr
    exact wpAnyL2_pure ho (Region.noSelect_spec hs) hQ l.length listed a w (Region.free_spec ho hf) hr' hy
      (wpAnyL2_seq hs l late _ _ _ (hc.set hr') hS hB' hK)
  | (i, 1) :: l, late, listed, a, w, hc, hS, hB, h => by
    simp only [seqsOk, Bool.and_eq_true] at hB
    obtain ⟨⟨⟨hr, hf⟩, hlt, hlb⟩, hB'⟩ := hB
    obtain ⟨o, v, ho, hy, hQ, hK⟩ := h
    have hr' : i ∈ Region.ready md ops listed := by simpa using hr
    exact wpAnyL2_read (late_of hlb) ho (Region.noSelect_spec hs) hQ l.length listed a w hc (Region.free_spec ho hf) hr' hy (hS (by simpa using hlt))
      (wpAnyL2_seq hs l late _ _ _ (hc.set hr') hS hB' hK)
  | (i, k + 2) :: l, late, listed, a, w, hc, hS, hB, h => by
    simp only [seqsOk, Bool.and_eq_true, beq_iff_eq] at hB
    obtain ⟨hr, hB'⟩ := hB
    have hr' : i ∈ Region.ready md ops listed := by rw [hr]; simp
    refine ⟨fun h0 => (by rw [h0] at hr; cases hr), fun j hj => ?_⟩
    rw [hr] at hj
    have : j = i := by simpa using hj
    subst this
    refine wpOp_mono (fun a' w' h' => ⟨h'.1, wpAnyL2_seq hs l _ _ a' w' (hc.set hr') (fun hne => ?_) hB' h'.2⟩) h
    rw [Bool.or_eq_false_iff] at hne
    exact h'.1 (by simpa using hne.2) (hS hne.1)

def seqsB (ops : Array Oper) (l : List (Nat × Nat)) (L : List Nat) : Bool := Region.noSelect ops && (ops.size == l.length) && seqsOk .any ops L l false (Array.replicate ops.size false)
/-- **The moves in a row serve every order.** -/
theorem wp_region_seqs {id : Nat} {a : Act} {w : World} {lo : List Oper} (S : World → Prop) (l : List (Nat × Nat)) (L : List Nat) (hm : P.follows .mixedOrders = true) (hB : seqsB lo.toArray l L = true) (hS : S w.drew)
    (h : wpSeqs P lo.toArray Q S L l a w.drew) : (Code.region id lo.toArray true).wp P Q a w := by
  unfold seqsB at hB
  simp only [Bool.and_eq_true, beq_iff_eq] at hB
  obtain ⟨⟨hs, hz⟩, hL⟩ := hB
  refine wp_region_any hm ?_
  have hcl : Closed .any lo.toArray (Array.replicate lo.toArray.size false) := fun j o _ hl => by
    rw [show (Array.replicate lo.toArray.size false).getD j false = false by simp [Array.getD_eq_getD_getElem?, Array.getElem?_replicate]; split <;> rfl] at hl; cases hl
  have := wpAny_of_L2 _ _ _ _ (wpAnyL2_seq hs l false (Array.replicate lo.toArray.size false) a w.drew hcl (fun _ => hS) hL h)
  rw [hz]
  rw [hz] at this
  exact this
theorem wpSeqs_pure {i : Nat} {o : Oper} {v : Value} {l : List (Nat × Nat)} {a : Act} {w : World} (ho : ops[i]? = some o) (hw : Region.wanted o (yielded ops a.tmps) = true) (hy : ∀ w, (execOp a.eval o).run P w = .ok (.value v) w)
    (hQ : ∀ c a w, Q (.panic c) (a.put o.dst v) w → Q (.panic c) a w) (h : wpSeqs P ops Q S L l (a.put o.dst v) w) : wpSeqs P ops Q S L ((i, 0) :: l) a w := ⟨o, v, ho, .inl ⟨hw, fun w _ => hy w⟩, hQ, h⟩
theorem wpSeqs_take {i : Nat} {o : Oper} {v : Value} {l : List (Nat × Nat)} {a : Act} {w : World} (ho : ops[i]? = some o) (hw : Region.wanted o (yielded ops a.tmps) = true) (hy : ∀ w, S w → (execOp a.eval o).run P w = .ok (.value v) w)
    (hQ : ∀ c a w, Q (.panic c) (a.put o.dst v) w → Q (.panic c) a w) (h : wpSeqs P ops Q S L l (a.put o.dst v) w) : wpSeqs P ops Q S L ((i, 1) :: l) a w := ⟨o, v, ho, .inl ⟨hw, hy⟩, hQ, h⟩
theorem wpSeqs_do {i : Nat} {o : Oper} {l : List (Nat × Nat)} {a : Act} {w : World} (ho : ops[i]? = some o) (hw : Region.wanted o (yielded ops a.tmps) = true) (h : o.wp P a w (fun a' w' => (i ∉ L → S w → S w') ∧ wpSeqs P ops Q S L l a' w') Q) : wpSeqs P ops Q S L ((i, 2) :: l) a w := by
  show wpOp P ops Q i _ a w
  unfold wpOp
  simp only [ho, hw, if_true]
  exact .inl h
end
end Go.Proofs.YthojfhdenfhjfaaDoor
end
section
namespace Go.Proofs.YthojfhdenfhjfaaDoor
open Go

/-- The moves: one that only computes; one that reads; one that is carried out, when it alone may come up; two, either of which may come up. -/
inductive Moves where
  | done
  | pure (i : Nat) (m : Moves)
  | read (i : Nat) (m : Moves)
  | one (i : Nat) (m : Moves)
  | two (i : Nat) (m : Moves) (j : Nat) (m' : Moves)
def Moves.len : Moves → Nat
  | .done => 0
  | .pure _ m => m.len + 1
  | .read _ m => m.len + 1
  | .one _ m => m.len + 1
  | .two _ m _ _ => m.len + 1

section
variable {P : Program} {ops : Array Oper} {md : Region.Mode} {S : World → Prop} {Q : Exit → Act → World → Prop} {L : List Nat}

def wpTree (P : Program) (ops : Array Oper) (Q : Exit → Act → World → Prop) (S : World → Prop) (L : List Nat) : Moves → Act → World → Prop
  | .done, a, w => Q .normal a w
  | .pure i m, a, w => ∃ o v, ops[i]? = some o ∧ YieldsIf P ops (fun _ => True) o v a ∧ (∀ c a w, Q (.panic c) (a.put o.dst v) w → Q (.panic c) a w) ∧ wpTree P ops Q S L m (a.put o.dst v) w
  | .read i m, a, w => ∃ o v, ops[i]? = some o ∧ YieldsIf P ops S o v a ∧ (∀ c a w, Q (.panic c) (a.put o.dst v) w → Q (.panic c) a w) ∧ wpTree P ops Q S L m (a.put o.dst v) w
  | .one i m, a, w => wpOp P ops Q i (fun a' w' => (i ∉ L → S w → S w') ∧ wpTree P ops Q S L m a' w') a w
  | .two i m j m', a, w => wpOp P ops Q i (fun a' w' => (i ∉ L → S w → S w') ∧ wpTree P ops Q S L m a' w') a w ∧ wpOp P ops Q j (fun a' w' => (j ∉ L → S w → S w') ∧ wpTree P ops Q S L m' a' w') a w
def treeOk (md : Region.Mode) (ops : Array Oper) (L : List Nat) : Moves → Bool → Array Bool → Bool
  | .done, _, listed => (Region.ready md ops listed).isEmpty
  | .pure i m, late, listed => (Region.ready md ops listed).contains i && Region.free md ops listed i && treeOk md ops L m late (listed.setIfInBounds i true)
  | .read i m, late, listed => (Region.ready md ops listed).contains i && Region.free md ops listed i && (!late && lateB md ops L i) && treeOk md ops L m late (listed.setIfInBounds i true)
  | .one i m, late, listed => (Region.ready md ops listed == [i]) && treeOk md ops L m (late || L.contains i) (listed.setIfInBounds i true)
  | .two i m j m', late, listed => (Region.ready md ops listed == [i, j]) && (m.len == m'.len) && treeOk md ops L m (late || L.contains i) (listed.setIfInBounds i true) && treeOk md ops L m' (late || L.contains j) (listed.setIfInBounds j true)

theorem wpAnyL2_tree (hs : Region.noSelect ops = true) : ∀ (m : Moves) (late : Bool) (listed : Array Bool) (a : Act) (w : World), Closed md ops listed → (late = false → S w) → treeOk md ops L m late listed = true → wpTree P ops Q S L m a w → wpAnyL2 P md ops Q S L m.len listed a w
  | .done, _, _, _, _, _, _, hB, h => ⟨by simpa [treeOk] using hB, h⟩
  | .pure i m, late, listed, a, w, hc, hS, hB, h => by
    simp only [treeOk, Bool.and_eq_true] at hB
    obtain ⟨⟨hr, hf⟩, hB'⟩ := hB
    obtain ⟨o, v, ho, hy, hQ, hK⟩ := h
    have hr' : i ∈ Region.ready md ops listed := by simpa using hr
    exact wpAnyL2_pure ho (Region.noSelect_spec hs) hQ m.len listed a w (Region.free_spec ho hf) hr' hy
      (wpAnyL2_tree hs m late _ _ _ (hc.set hr') hS hB' hK)
  | .read i m, late, listed, a, w, hc, hS, hB, h => by
    simp only [treeOk, Bool.and_eq_true] at hB
    obtain ⟨⟨⟨hr, hf⟩, hlt, hlb⟩, hB'⟩ := hB
    obtain ⟨o, v, ho, hy, hQ, hK⟩ := h
    have hr' : i ∈ Region.ready md ops listed := by simpa using hr
    exact wpAnyL2_read (late_of hlb) ho (Region.noSelect_spec hs) hQ m.len listed a w hc (Region.free_spec ho hf) hr' hy (hS (by simpa using hlt))
      (wpAnyL2_tree hs m late _ _ _ (hc.set hr') hS hB' hK)
  | .one i m, late, listed, a, w, hc, hS, hB, h => by
    simp only [treeOk, Bool.and_eq_true, beq_iff_eq] at hB
    obtain ⟨hr, hB'⟩ := hB
    have hr' : i ∈ Region.ready md ops listed := by rw [hr]; simp
    refine ⟨fun h0 => (by rw [h0] at hr; cases hr), fun j hj => ?_⟩
    rw [hr] at hj
    have : j = i := by simpa using hj
    subst this
    refine wpOp_mono (fun a' w' h' => ⟨h'.1, wpAnyL2_tree hs m _ _ a' w' (hc.set hr') (fun hne => ?_) hB' h'.2⟩) h
    rw [Bool.or_eq_false_iff] at hne
    exact h'.1 (by simpa using hne.2) (hS hne.1)
  | .two i m j m', late, listed, a, w, hc, hS, hB, h => by
    simp only [treeOk, Bool.and_eq_true, beq_iff_eq] at hB
    obtain ⟨⟨⟨hr, hz⟩, hB1⟩, hB2⟩ := hB
    have hri : i ∈ Region.ready md ops listed := by rw [hr]; simp
    have hrj : j ∈ Region.ready md ops listed := by rw [hr]; simp
    refine ⟨fun h0 => (by rw [h0] at hr; cases hr), fun k hk => ?_⟩
    rw [hr] at hk
    rcases List.mem_cons.1 hk with rfl | hk
    · refine wpOp_mono (fun a' w' h' => ⟨h'.1, wpAnyL2_tree hs m _ _ a' w' (hc.set hri) (fun hne => ?_) hB1 h'.2⟩) h.1
      rw [Bool.or_eq_false_iff] at hne
      exact h'.1 (by simpa using hne.2) (hS hne.1)
    · have : k = j := by simpa using hk
      subst this
      refine wpOp_mono (fun a' w' h' => ⟨h'.1, ?_⟩) h.2
      show wpAnyL2 P md ops Q S L m.len _ a' w'
      rw [hz]
      refine wpAnyL2_tree hs m' _ _ a' w' (hc.set hrj) (fun hne => ?_) hB2 h'.2
      rw [Bool.or_eq_false_iff] at hne
      exact h'.1 (by simpa using hne.2) (hS hne.1)

def treeB (ops : Array Oper) (m : Moves) (L : List Nat) : Bool := Region.noSelect ops && (ops.size == m.len) && treeOk .any ops L m false (Array.replicate ops.size false)
/-- **The moves serve every order.** -/
theorem wp_region_tree {id : Nat} {a : Act} {w : World} {lo : List Oper} (S : World → Prop) (m : Moves) (L : List Nat) (hm : P.follows .mixedOrders = true) (hB : treeB lo.toArray m L = true) (hS : S w.drew)
    (h : wpTree P lo.toArray Q S L m a w.drew) : (Code.region id lo.toArray true).wp P Q a w := by
  unfold treeB at hB
  simp only [Bool.and_eq_true, beq_iff_eq] at hB
  obtain ⟨⟨hs, hz⟩, hL⟩ := hB
  refine wp_region_any hm ?_
  have hcl : Closed .any lo.toArray (Array.replicate lo.toArray.size false) := fun j o _ hl => by
    rw [show (Array.replicate lo.toArray.size false).getD j false = false by simp [Array.getD_eq_getD_getElem?, Array.getElem?_replicate]; split <;> rfl] at hl; cases hl
  have := wpAny_of_L2 _ _ _ _ (wpAnyL2_tree hs m false (Array.replicate lo.toArray.size false) a w.drew hcl (fun _ => hS) hL h)
  rw [hz]
  rw [hz] at this
  exact this
theorem wpTree_pure {i : Nat} {o : Oper} {v : Value} {m : Moves} {a : Act} {w : World} (ho : ops[i]? = some o) (hw : Region.wanted o (yielded ops a.tmps) = true) (hy : ∀ w, (execOp a.eval o).run P w = .ok (.value v) w)
    (hQ : ∀ c a w, Q (.panic c) (a.put o.dst v) w → Q (.panic c) a w) (h : wpTree P ops Q S L m (a.put o.dst v) w) : wpTree P ops Q S L (.pure i m) a w := ⟨o, v, ho, .inl ⟨hw, fun w _ => hy w⟩, hQ, h⟩
theorem wpTree_take {i : Nat} {o : Oper} {v : Value} {m : Moves} {a : Act} {w : World} (ho : ops[i]? = some o) (hw : Region.wanted o (yielded ops a.tmps) = true) (hy : ∀ w, S w → (execOp a.eval o).run P w = .ok (.value v) w)
    (hQ : ∀ c a w, Q (.panic c) (a.put o.dst v) w → Q (.panic c) a w) (h : wpTree P ops Q S L m (a.put o.dst v) w) : wpTree P ops Q S L (.read i m) a w := ⟨o, v, ho, .inl ⟨hw, hy⟩, hQ, h⟩
/-- One that its guard bars. -/
theorem wpTree_bar {i : Nat} {o : Oper} {m : Moves} {a : Act} {w : World} (ho : ops[i]? = some o) (hw : Region.wanted o (yielded ops a.tmps) = false)
    (hQ : ∀ c a w, Q (.panic c) (a.put o.dst undef) w → Q (.panic c) a w) (h : wpTree P ops Q S L m (a.put o.dst undef) w) : wpTree P ops Q S L (.pure i m) a w := ⟨o, undef, ho, .inr ⟨hw, rfl⟩, hQ, h⟩
theorem wpTree_barR {i : Nat} {o : Oper} {m : Moves} {a : Act} {w : World} (ho : ops[i]? = some o) (hw : Region.wanted o (yielded ops a.tmps) = false)
    (hQ : ∀ c a w, Q (.panic c) (a.put o.dst undef) w → Q (.panic c) a w) (h : wpTree P ops Q S L m (a.put o.dst undef) w) : wpTree P ops Q S L (.read i m) a w := ⟨o, undef, ho, .inr ⟨hw, rfl⟩, hQ, h⟩
theorem wpTree_bar1 {i : Nat} {o : Oper} {m : Moves} {a : Act} {w : World} (ho : ops[i]? = some o) (hw : Region.wanted o (yielded ops a.tmps) = false)
    (h : wpTree P ops Q S L m (a.put o.dst undef) w) : wpTree P ops Q S L (.one i m) a w := by
  show wpOp P ops Q i _ a w
  unfold wpOp
  simp only [ho, hw, Bool.false_eq_true, if_false]
  exact ⟨fun _ h => h, h⟩
theorem wpOp_do {i : Nat} {o : Oper} {a : Act} {w : World} {K : Act → World → Prop} (ho : ops[i]? = some o) (hw : Region.wanted o (yielded ops a.tmps) = true) (h : o.wp P a w K Q) : wpOp P ops Q i K a w := by
  unfold wpOp
  simp only [ho, hw, if_true]
  exact .inl h
theorem wpTree_do {i : Nat} {o : Oper} {m : Moves} {a : Act} {w : World} (ho : ops[i]? = some o) (hw : Region.wanted o (yielded ops a.tmps) = true) (h : o.wp P a w (fun a' w' => (i ∉ L → S w → S w') ∧ wpTree P ops Q S L m a' w') Q) : wpTree P ops Q S L (.one i m) a w := by
  show wpOp P ops Q i _ a w
  exact wpOp_do ho hw h
theorem wpTree_two {i j : Nat} {o o' : Oper} {m m' : Moves} {a : Act} {w : World} (ho : ops[i]? = some o) (hw : Region.wanted o (yielded ops a.tmps) = true) (ho' : ops[j]? = some o') (hw' : Region.wanted o' (yielded ops a.tmps) = true)
    (h : o.wp P a w (fun a' w' => (i ∉ L → S w → S w') ∧ wpTree P ops Q S L m a' w') Q) (h' : o'.wp P a w (fun a' w' => (j ∉ L → S w → S w') ∧ wpTree P ops Q S L m' a' w') Q) : wpTree P ops Q S L (.two i m j m') a w :=
  ⟨wpOp_do ho hw h, wpOp_do ho' hw' h'⟩
end
end Go.Proofs.YthojfhdenfhjfaaDoor
end
