/-
  A region that draws its order, inside a fence: the tree of moves (QTree) anew. No program is named here. (Printed by portin.py.)
-/
import Derived.Test.YthojfhdenfhjfaaDoorRa04
import Derived.OrdersIn
import Derived.OwnWalkIn
set_option linter.all false
set_option linter.unusedVariables false
set_option linter.unusedSimpArgs false
namespace Go.Proofs.YthojfhdenfhjfaaDoor
open Go

section
variable {F : Fence} {n : Nat} {P : Program} {ops : Array Oper} {md : Region.Mode} {S : World → Prop} {Q : Exit → Act → World → Prop} {L : List Nat}

/-- No operation is a defer statement. -/
def NoDefer (ops : Array Oper) : Prop := ∀ (j : Nat) (o : Oper), ops[j]? = some o → ∀ c, o.op ≠ .defer c
def noDeferB (ops : Array Oper) : Bool := ops.all fun o => match o.op with | .defer _ => false | _ => true
theorem noDefer_of (h : noDeferB ops = true) : NoDefer ops := fun j o ho c e => by
  have := Array.all_eq_true'.1 h o (Array.mem_of_getElem? ho)
  rw [e] at this
  cases this
/-- It yields its value in every world that meets S, and is about to make no call, in whatever world. -/
def YieldsIfIn (P : Program) (ops : Array Oper) (S : World → Prop) (o : Oper) (v : Value) (a : Act) : Prop := YieldsIf P ops S o v a ∧ ∀ w, o.about P w a.eval = none
theorem YieldsIfIn.wpOpIn {i : Nat} {o : Oper} {v : Value} {a : Act} (hd : NoDefer ops) (hi : ops[i]? = some o) (hy : YieldsIfIn P ops S o v a)
    {K : Act → World → Prop} {w : World} (hS : S w) (h : K (a.put o.dst v) w) : wpOpIn F n P ops Q i K a w := by
  unfold Go.wpOpIn
  simp only [hi]
  have hab : ∀ f, o.about P w a.eval = some f → F.fn f := fun f hf => by rw [hy.2 w] at hf; cases hf
  rcases hy.1 with ⟨hw, hv⟩ | ⟨hw, rfl⟩
  · simp only [hw, if_true, Oper.wpIn, Oper.semAt_plain F _ _ (hd i o hi), hv w hS, Oper.uponIn]; exact ⟨hab, h⟩
  · simp only [hw, Bool.false_eq_true, if_false]; exact ⟨hab, h⟩
theorem YieldsIfIn.of_same {o : Oper} {v : Value} {a a' : Act} (hy : YieldsIfIn P ops S o v a) (he : execOp a'.eval o = execOp a.eval o)
    (hw : Region.wanted o (yielded ops a'.tmps) = Region.wanted o (yielded ops a.tmps)) (hb : ∀ w, o.about P w a'.eval = o.about P w a.eval) : YieldsIfIn P ops S o v a' :=
  ⟨hy.1.of_same he hw, fun w => by rw [hb w]; exact hy.2 w⟩
theorem wpOpIn_putIf {j : Nat} {oi oj : Oper} {v : Value} (hd : NoDefer ops) (hj : ops[j]? = some oj) (hap : oi.apart ops oj = true)
    (hsi : ∀ cs b, oi.op ≠ .select cs b) (hsj : ∀ cs b, oj.op ≠ .select cs b)
    (hQ : ∀ c a w, Q (.panic c) (a.put oi.dst v) w → Q (.panic c) a w) {K : Act → World → Prop} {a : Act} {w : World}
    (hy : YieldsIfIn P ops S oi v a) (h : wpOpIn F n P ops Q j K (a.put oi.dst v) w) :
    wpOpIn F n P ops Q j (fun a' w' => YieldsIfIn P ops S oi v a' ∧ K (a'.put oi.dst v) w') a w := by
  obtain ⟨h1, h2, h3⟩ := Oper.apart_spec hap
  have keep : ∀ (a : Act), YieldsIfIn P ops S oi v a → ∀ u, YieldsIfIn P ops S oi v (a.put oj.dst u) := fun a hy u =>
    hy.of_same (execOp_put oi hsi a oj.dst u h3) (wanted_put oi a oj.dst u h3) (fun w => about_put oi w a oj.dst u h3)
  have keepD : ∀ d, YieldsIfIn P ops S oi v { a with defers := d :: a.defers } := fun d => hy.of_same rfl rfl (fun _ => rfl)
  have hdj := hd j oj hj
  unfold wpOpIn at *
  simp only [hj] at *
  rw [wanted_put oj a oi.dst v h1, about_put oj w a oi.dst v h1] at h
  split
  · rename_i hw
    simp only [hw, if_true] at h
    unfold Oper.wpIn at *
    rw [about_put oj w a oi.dst v h1] at h
    refine ⟨h.1, ?_⟩
    have h := h.2
    rw [Oper.semAt_plain F _ _ hdj, execOp_put oj hsj a oi.dst v h1] at h
    rw [Oper.semAt_plain F _ _ hdj]
    generalize (execOp a.eval oj).run P w = r at *
    cases r with
    | ok x w' =>
      cases x <;> simp only [Oper.uponIn] at h ⊢
      case value u => exact ⟨keep a hy u, by rw [← Act.put_comm a v u h2]; exact h⟩
      case skip => exact ⟨keep a hy _, by rw [← Act.put_comm a v undef h2]; exact h⟩
      case defer d =>
        refine ⟨keep _ (keepD d) _, ?_⟩
        rw [← Act.put_comm _ v undef h2, ← Act.put_defers]
        exact h
      case enter f args =>
        refine ⟨h.1, CallsIn.mono h.2 fun e w'' he => ?_⟩
        cases e with
        | returned u => exact ⟨keep a hy u, by rw [← Act.put_comm a v u h2]; exact he⟩
        | panicked c => exact hQ _ _ _ he
        | outgrown => exact he
      case row row args => exact ⟨h.1, RowsIn.mono h.2 fun u w'' he => ⟨keep a hy u, by rw [← Act.put_comm a v u h2]; exact he⟩⟩
      case round l f tmps assign body =>
        refine ⟨h.1, RoundIn.mono h.2 fun e w'' he => ?_⟩
        cases e with
        | returned u => exact ⟨keep a hy u, by rw [← Act.put_comm a v u h2]; exact he⟩
        | panicked c => exact hQ _ _ _ he
        | outgrown => exact he
    | halt x w' =>
      cases x <;> simp only [Oper.uponIn] at h ⊢
      case panic u => exact hQ _ _ _ h
  · rename_i hw
    simp only [hw] at h
    exact ⟨h.1, keep a hy _, by rw [← Act.put_comm a v undef h2]; exact h.2⟩

/-- Whatever order is picked from here on, and S is kept by every operation but the late ones. -/
def wpAnyT (F : Fence) (n : Nat) (P : Program) (md : Region.Mode) (ops : Array Oper) (Q : Exit → Act → World → Prop) (S : World → Prop) (L : List Nat) : Nat → Array Bool → Act → World → Prop
  | 0, listed, a, w => Region.ready md ops listed = [] ∧ Q .normal a w
  | fuel + 1, listed, a, w =>
    (Region.ready md ops listed = [] → Q .normal a w) ∧
    ∀ i ∈ Region.ready md ops listed, wpOpIn F n P ops Q i (fun a' w' => (i ∉ L → S w → S w') ∧ wpAnyT F n P md ops Q S L fuel (listed.setIfInBounds i true) a' w') a w

theorem wpAnyIn_of_T : ∀ (fuel : Nat) (listed : Array Bool) (a : Act) (w : World), wpAnyT F n P md ops Q S L fuel listed a w → wpAnyIn F n P md ops Q fuel listed a w
  | 0, _, _, _, h => h
  | fuel + 1, _, _, _, h => ⟨h.1, fun i hi => wpOpIn_mono (fun a' w' h' => wpAnyIn_of_T fuel _ a' w' h'.2) (h.2 i hi)⟩

theorem wpAnyT_pure (hd : NoDefer ops) {i : Nat} {oi : Oper} {v : Value} (hi : ops[i]? = some oi) (hsel : ∀ (j : Nat) (o : Oper) cs b, ops[j]? = some o → o.op ≠ .select cs b)
    (hQ : ∀ c a w, Q (.panic c) (a.put oi.dst v) w → Q (.panic c) a w) :
    ∀ (fuel : Nat) (listed : Array Bool) (a : Act) (w : World),
      (∀ j oj, ops[j]? = some oj → j ≠ i → listed.getD j true = false → (∀ e ∈ oj.after, Region.binds md e = true → e.on ≠ i) → oi.apart ops oj = true) →
      i ∈ Region.ready md ops listed → YieldsIfIn P ops (fun _ => True) oi v a →
      wpAnyT F n P md ops Q S L fuel (listed.setIfInBounds i true) (a.put oi.dst v) w → wpAnyT F n P md ops Q S L (fuel + 1) listed a w := by
  intro fuel
  induction fuel with
  | zero =>
    intro listed a w _ hr hy H
    refine ⟨fun h => (by rw [h] at hr; cases hr), fun j hj => ?_⟩
    by_cases hji : j = i
    · subst hji; exact hy.wpOpIn hd hi trivial ⟨fun _ h => h, H⟩
    · have := ready_mono hj hji
      rw [H.1] at this
      cases this
  | succ fuel ih =>
    intro listed a w hfree hr hy H
    refine ⟨fun h => (by rw [h] at hr; cases hr), fun j hj => ?_⟩
    by_cases hji : j = i
    · subst hji; exact hy.wpOpIn hd hi trivial ⟨fun _ h => h, H⟩
    · have h1 := H.2 j (ready_mono hj hji)
      obtain ⟨hjun, oj, hoj, hall⟩ := mem_ready.1 hj
      have hnw : ∀ e ∈ oj.after, Region.binds md e = true → e.on ≠ i := fun e he hb heq => by
        have h1 := hall e he hb
        have h0 := (mem_ready.1 hr).1
        rw [heq] at h1
        rcases Nat.lt_or_ge i listed.size with h' | h'
        · simp [h'] at h0 h1; rw [h0] at h1; cases h1
        · simp [Array.getElem?_eq_none h'] at h1
      have h2 := wpOpIn_putIf hd hoj (hfree j oj hoj hji hjun hnw) (fun cs b => hsel i oi cs b hi) (fun cs b => hsel j oj cs b hoj) hQ hy h1
      have hfree' : ∀ k ok, ops[k]? = some ok → k ≠ i → (listed.setIfInBounds j true).getD k true = false →
          (∀ e ∈ ok.after, Region.binds md e = true → e.on ≠ i) → oi.apart ops ok = true := fun k ok hk hki hun hno => by
        refine hfree k ok hk hki ?_ hno
        by_cases hjk : j = k
        · subst hjk; exact hjun
        · rw [getD_set_ne true hjk] at hun; exact hun
      refine wpOpIn_mono (fun a' w' h3 => ⟨h3.2.1, ih (listed.setIfInBounds j true) a' w' hfree' (ready_mono hr (Ne.symm hji)) h3.1 ?_⟩) h2
      rw [Array.setIfInBounds_comm _ _ hji]
      exact h3.2.2

theorem wpAnyT_read (hd : NoDefer ops) {i : Nat} {oi : Oper} {v : Value} (hL : ∀ listed : Array Bool, Closed md ops listed → listed.getD i false = false → ∀ j ∈ L, j ∉ Region.ready md ops listed) (hi : ops[i]? = some oi) (hsel : ∀ (j : Nat) (o : Oper) cs b, ops[j]? = some o → o.op ≠ .select cs b)
    (hQ : ∀ c a w, Q (.panic c) (a.put oi.dst v) w → Q (.panic c) a w) :
    ∀ (fuel : Nat) (listed : Array Bool) (a : Act) (w : World), Closed md ops listed →
      (∀ j oj, ops[j]? = some oj → j ≠ i → listed.getD j true = false → (∀ e ∈ oj.after, Region.binds md e = true → e.on ≠ i) → oi.apart ops oj = true) →
      i ∈ Region.ready md ops listed → YieldsIfIn P ops S oi v a → S w →
      wpAnyT F n P md ops Q S L fuel (listed.setIfInBounds i true) (a.put oi.dst v) w → wpAnyT F n P md ops Q S L (fuel + 1) listed a w := by
  intro fuel
  induction fuel with
  | zero =>
    intro listed a w _ _ hr hy hS H
    refine ⟨fun h => (by rw [h] at hr; cases hr), fun j hj => ?_⟩
    by_cases hji : j = i
    · subst hji; exact hy.wpOpIn hd hi hS ⟨fun _ h => h, H⟩
    · have := ready_mono hj hji
      rw [H.1] at this
      cases this
  | succ fuel ih =>
    intro listed a w hc hfree hr hy hS H
    refine ⟨fun h => (by rw [h] at hr; cases hr), fun j hj => ?_⟩
    by_cases hji : j = i
    · subst hji; exact hy.wpOpIn hd hi hS ⟨fun _ h => h, H⟩
    · have hjn : j ∉ L := fun e => hL listed hc (getD_un (mem_ready.1 hr).1) j e hj
      have h1 := H.2 j (ready_mono hj hji)
      obtain ⟨hjun, oj, hoj, hall⟩ := mem_ready.1 hj
      have hnw : ∀ e ∈ oj.after, Region.binds md e = true → e.on ≠ i := fun e he hb heq => by
        have h1 := hall e he hb
        have h0 := (mem_ready.1 hr).1
        rw [heq] at h1
        rcases Nat.lt_or_ge i listed.size with h' | h'
        · simp [h'] at h0 h1; rw [h0] at h1; cases h1
        · simp [Array.getElem?_eq_none h'] at h1
      have h2 := wpOpIn_putIf hd hoj (hfree j oj hoj hji hjun hnw) (fun cs b => hsel i oi cs b hi) (fun cs b => hsel j oj cs b hoj) hQ hy h1
      have hfree' : ∀ k ok, ops[k]? = some ok → k ≠ i → (listed.setIfInBounds j true).getD k true = false →
          (∀ e ∈ ok.after, Region.binds md e = true → e.on ≠ i) → oi.apart ops ok = true := fun k ok hk hki hun hno => by
        refine hfree k ok hk hki ?_ hno
        by_cases hjk : j = k
        · subst hjk; exact hjun
        · rw [getD_set_ne true hjk] at hun; exact hun
      refine wpOpIn_mono (fun a' w' h3 => ⟨h3.2.1, ih (listed.setIfInBounds j true) a' w' (hc.set hj) hfree' (ready_mono hr (Ne.symm hji)) h3.1 (h3.2.1 hjn hS) ?_⟩) h2
      rw [Array.setIfInBounds_comm _ _ hji]
      exact h3.2.2

def wpTreeIn (F : Fence) (n : Nat) (P : Program) (ops : Array Oper) (Q : Exit → Act → World → Prop) (S : World → Prop) (L : List Nat) : Moves → Act → World → Prop
  | .done, a, w => Q .normal a w
  | .pure i m, a, w => ∃ o v, ops[i]? = some o ∧ YieldsIfIn P ops (fun _ => True) o v a ∧ (∀ c a w, Q (.panic c) (a.put o.dst v) w → Q (.panic c) a w) ∧ wpTreeIn F n P ops Q S L m (a.put o.dst v) w
  | .read i m, a, w => ∃ o v, ops[i]? = some o ∧ YieldsIfIn P ops S o v a ∧ (∀ c a w, Q (.panic c) (a.put o.dst v) w → Q (.panic c) a w) ∧ wpTreeIn F n P ops Q S L m (a.put o.dst v) w
  | .one i m, a, w => wpOpIn F n P ops Q i (fun a' w' => (i ∉ L → S w → S w') ∧ wpTreeIn F n P ops Q S L m a' w') a w
  | .two i m j m', a, w => wpOpIn F n P ops Q i (fun a' w' => (i ∉ L → S w → S w') ∧ wpTreeIn F n P ops Q S L m a' w') a w ∧ wpOpIn F n P ops Q j (fun a' w' => (j ∉ L → S w → S w') ∧ wpTreeIn F n P ops Q S L m' a' w') a w
theorem wpAnyT_tree (hd : NoDefer ops) (hs : Region.noSelect ops = true) : ∀ (m : Moves) (late : Bool) (listed : Array Bool) (a : Act) (w : World), Closed md ops listed → (late = false → S w) → treeOk md ops L m late listed = true → wpTreeIn F n P ops Q S L m a w → wpAnyT F n P md ops Q S L m.len listed a w
  | .done, _, _, _, _, _, _, hB, h => ⟨by simpa [treeOk] using hB, h⟩
  | .pure i m, late, listed, a, w, hc, hS, hB, h => by
    simp only [treeOk, Bool.and_eq_true] at hB
    obtain ⟨⟨hr, hf⟩, hB'⟩ := hB
    obtain ⟨o, v, ho, hy, hQ, hK⟩ := h
    have hr' : i ∈ Region.ready md ops listed := by simpa using hr
    exact wpAnyT_pure hd ho (Region.noSelect_spec hs) hQ m.len listed a w (Region.free_spec ho hf) hr' hy
      (wpAnyT_tree hd hs m late _ _ _ (hc.set hr') hS hB' hK)
  | .read i m, late, listed, a, w, hc, hS, hB, h => by
    simp only [treeOk, Bool.and_eq_true] at hB
    obtain ⟨⟨⟨hr, hf⟩, hlt, hlb⟩, hB'⟩ := hB
    obtain ⟨o, v, ho, hy, hQ, hK⟩ := h
    have hr' : i ∈ Region.ready md ops listed := by simpa using hr
    exact wpAnyT_read hd (late_of hlb) ho (Region.noSelect_spec hs) hQ m.len listed a w hc (Region.free_spec ho hf) hr' hy (hS (by simpa using hlt))
      (wpAnyT_tree hd hs m late _ _ _ (hc.set hr') hS hB' hK)
  | .one i m, late, listed, a, w, hc, hS, hB, h => by
    simp only [treeOk, Bool.and_eq_true, beq_iff_eq] at hB
    obtain ⟨hr, hB'⟩ := hB
    have hr' : i ∈ Region.ready md ops listed := by rw [hr]; simp
    refine ⟨fun h0 => (by rw [h0] at hr; cases hr), fun j hj => ?_⟩
    rw [hr] at hj
    have : j = i := by simpa using hj
    subst this
    refine wpOpIn_mono (fun a' w' h' => ⟨h'.1, wpAnyT_tree hd hs m _ _ a' w' (hc.set hr') (fun hne => ?_) hB' h'.2⟩) h
    rw [Bool.or_eq_false_iff] at hne
    exact h'.1 (by simpa using hne.2) (hS hne.1)
  | .two i m j m', late, listed, a, w, hc, hS, hB, h => by
    simp only [treeOk, Bool.and_eq_true, beq_iff_eq] at hB
    obtain ⟨⟨⟨hr, hz⟩, hB1⟩, hB2⟩ := hB
    have hri : i ∈ Region.ready md ops listed := by rw [hr]; simp
    have hrj : j ∈ Region.ready md ops listed := by rw [hr]; simp
    refine ⟨fun h0 => (by rw [h0] at hr; cases hr), fun k hk => ?_⟩
    rw [hr] at hk
    rcases List.mem_cons.1 hk with rfl | hk
    · refine wpOpIn_mono (fun a' w' h' => ⟨h'.1, wpAnyT_tree hd hs m _ _ a' w' (hc.set hri) (fun hne => ?_) hB1 h'.2⟩) h.1
      rw [Bool.or_eq_false_iff] at hne
      exact h'.1 (by simpa using hne.2) (hS hne.1)
    · have : k = j := by simpa using hk
      subst this
      refine wpOpIn_mono (fun a' w' h' => ⟨h'.1, ?_⟩) h.2
      show wpAnyT F n P md ops Q S L m.len _ a' w'
      rw [hz]
      refine wpAnyT_tree hd hs m' _ _ a' w' (hc.set hrj) (fun hne => ?_) hB2 h'.2
      rw [Bool.or_eq_false_iff] at hne
      exact h'.1 (by simpa using hne.2) (hS hne.1)

/-- **The moves serve every order.** -/
theorem wpIn_region_tree {id : Nat} {a : Act} {w : World} {lo : List Oper} (S : World → Prop) (m : Moves) (L : List Nat) (hm : P.follows .mixedOrders = true) (hB : treeB lo.toArray m L = true) (hN : noDeferB lo.toArray = true) (hS : S w.drew)
    (h : wpTreeIn F n P lo.toArray Q S L m a w.drew) : (Code.region id lo.toArray true).wpIn F n P Q a w := by
  unfold treeB at hB
  simp only [Bool.and_eq_true, beq_iff_eq] at hB
  obtain ⟨⟨hs, hz⟩, hL⟩ := hB
  refine wpIn_region_any hm ?_
  have hcl : Closed .any lo.toArray (Array.replicate lo.toArray.size false) := fun j o _ hl => by
    rw [show (Array.replicate lo.toArray.size false).getD j false = false by simp [Array.getD_eq_getD_getElem?, Array.getElem?_replicate]; split <;> rfl] at hl; cases hl
  have := wpAnyIn_of_T _ _ _ _ (wpAnyT_tree (noDefer_of hN) hs m false (Array.replicate lo.toArray.size false) a w.drew hcl (fun _ => hS) hL h)
  rw [hz]
  rw [hz] at this
  exact this
theorem wpTreeIn_pure {i : Nat} {o : Oper} {v : Value} {m : Moves} {a : Act} {w : World} (ho : ops[i]? = some o) (hw : Region.wanted o (yielded ops a.tmps) = true) (hy : ∀ w, (execOp a.eval o).run P w = .ok (.value v) w) (hab : ∀ w, o.about P w a.eval = none)
    (hQ : ∀ c a w, Q (.panic c) (a.put o.dst v) w → Q (.panic c) a w) (h : wpTreeIn F n P ops Q S L m (a.put o.dst v) w) : wpTreeIn F n P ops Q S L (.pure i m) a w := ⟨o, v, ho, ⟨.inl ⟨hw, fun w _ => hy w⟩, hab⟩, hQ, h⟩
theorem wpTreeIn_take {i : Nat} {o : Oper} {v : Value} {m : Moves} {a : Act} {w : World} (ho : ops[i]? = some o) (hw : Region.wanted o (yielded ops a.tmps) = true) (hy : ∀ w, S w → (execOp a.eval o).run P w = .ok (.value v) w) (hab : ∀ w, o.about P w a.eval = none)
    (hQ : ∀ c a w, Q (.panic c) (a.put o.dst v) w → Q (.panic c) a w) (h : wpTreeIn F n P ops Q S L m (a.put o.dst v) w) : wpTreeIn F n P ops Q S L (.read i m) a w := ⟨o, v, ho, ⟨.inl ⟨hw, hy⟩, hab⟩, hQ, h⟩
/-- One that its guard bars. -/
theorem wpTreeIn_bar {i : Nat} {o : Oper} {m : Moves} {a : Act} {w : World} (ho : ops[i]? = some o) (hw : Region.wanted o (yielded ops a.tmps) = false) (hab : ∀ w, o.about P w a.eval = none)
    (hQ : ∀ c a w, Q (.panic c) (a.put o.dst undef) w → Q (.panic c) a w) (h : wpTreeIn F n P ops Q S L m (a.put o.dst undef) w) : wpTreeIn F n P ops Q S L (.pure i m) a w := ⟨o, undef, ho, ⟨.inr ⟨hw, rfl⟩, hab⟩, hQ, h⟩
theorem wpTreeIn_barR {i : Nat} {o : Oper} {m : Moves} {a : Act} {w : World} (ho : ops[i]? = some o) (hw : Region.wanted o (yielded ops a.tmps) = false) (hab : ∀ w, o.about P w a.eval = none)
    (hQ : ∀ c a w, Q (.panic c) (a.put o.dst undef) w → Q (.panic c) a w) (h : wpTreeIn F n P ops Q S L m (a.put o.dst undef) w) : wpTreeIn F n P ops Q S L (.read i m) a w := ⟨o, undef, ho, ⟨.inr ⟨hw, rfl⟩, hab⟩, hQ, h⟩
theorem wpTreeIn_bar1 {i : Nat} {o : Oper} {m : Moves} {a : Act} {w : World} (ho : ops[i]? = some o) (hw : Region.wanted o (yielded ops a.tmps) = false) (hab : ∀ f, o.about P w a.eval = some f → F.fn f)
    (h : wpTreeIn F n P ops Q S L m (a.put o.dst undef) w) : wpTreeIn F n P ops Q S L (.one i m) a w := by
  show wpOpIn F n P ops Q i _ a w
  unfold wpOpIn
  simp only [ho, hw, Bool.false_eq_true, if_false]
  exact ⟨hab, fun _ h => h, h⟩
theorem wpOpInT_do {i : Nat} {o : Oper} {a : Act} {w : World} {K : Act → World → Prop} (ho : ops[i]? = some o) (hw : Region.wanted o (yielded ops a.tmps) = true) (h : o.wpIn F n P a w K Q) : wpOpIn F n P ops Q i K a w := by
  unfold wpOpIn
  simp only [ho, hw, if_true]
  exact h
theorem wpTreeIn_do {i : Nat} {o : Oper} {m : Moves} {a : Act} {w : World} (ho : ops[i]? = some o) (hw : Region.wanted o (yielded ops a.tmps) = true) (h : o.wpIn F n P a w (fun a' w' => (i ∉ L → S w → S w') ∧ wpTreeIn F n P ops Q S L m a' w') Q) : wpTreeIn F n P ops Q S L (.one i m) a w := by
  show wpOpIn F n P ops Q i _ a w
  exact wpOpInT_do ho hw h
theorem wpTreeIn_two {i j : Nat} {o o' : Oper} {m m' : Moves} {a : Act} {w : World} (ho : ops[i]? = some o) (hw : Region.wanted o (yielded ops a.tmps) = true) (ho' : ops[j]? = some o') (hw' : Region.wanted o' (yielded ops a.tmps) = true)
    (h : o.wpIn F n P a w (fun a' w' => (i ∉ L → S w → S w') ∧ wpTreeIn F n P ops Q S L m a' w') Q) (h' : o'.wpIn F n P a w (fun a' w' => (j ∉ L → S w → S w') ∧ wpTreeIn F n P ops Q S L m' a' w') Q) : wpTreeIn F n P ops Q S L (.two i m j m') a w :=
  ⟨wpOpInT_do ho hw h, wpOpInT_do ho' hw' h'⟩
end
end Go.Proofs.YthojfhdenfhjfaaDoor
