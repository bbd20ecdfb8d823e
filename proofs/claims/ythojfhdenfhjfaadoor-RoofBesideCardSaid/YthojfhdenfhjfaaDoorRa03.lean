/-
  The words that the roof layer's walks use. No program is named here. The roof layer's small functions, walked: numbers between two others, signs, directions. A region that draws its order, all of whose operations but the last only read, and whose last one waits for all others: one walk in the order of the text. No program is named here. Append to a slice of the call's own, told with where the row behind it lies. No program is named here.
-/
import Derived.Test.YthojfhdenfhjfaaDoorRa00
import Derived.Test.YthojfhdenfhjfaaDoorRa02
import Derived.Below
import Derived.BigQuiet
import Derived.Deep.AppendLies
import Derived.Deep.Cut
import Derived.Deep.LoopGhost
import Derived.Deep.RegionHeld3
import Derived.Lib.Hide
import Derived.Outline
import Derived.OwnWalk
import Derived.RegionTactic
import Derived.WalkKit
import Derived.WalkLawsBesides
import Derived.WalkSpells
set_option linter.all false
set_option linter.unusedVariables false
set_option linter.unusedSimpArgs false
section
namespace Go.Proofs.YthojfhdenfhjfaaDoor
end Go.Proofs.YthojfhdenfhjfaaDoor
end
section
namespace Go.Proofs.YthojfhdenfhjfaaDoor
open Go.RowKit Go.Lib

theorem in_any (a b c : Int) (w : World) : Calls Tryd.prog 51 #[.int .i64 a, .int .i64 b, .int .i64 c] w fun e w' => e = .returned (.bool (inB a b c)) ∧ w = w' := by
  by_cases h1 : b ≤ a
  all_goals
    go_enter Tryd.func51, Tryd.ntmps51
    go_wp2
    go_ret
    simp [inB, h1]
    try omega
theorem planned_any (p : Pnt) (w : World) : Calls Tryd.prog 52 #[pntVal p] w fun e w' => e = .returned (.bool (inPlan p)) ∧ Below w.heap.size w w' := by
  have hb : Below w.heap.size w (w.alloc (.cells #[.int .i64 p.x, .int .i64 p.y] 39)) := (Below.refl _ w).alloc (Nat.le_refl _) _
  cases h1 : inB p.x 0 10000
  all_goals
    go_enter Tryd.func52, Tryd.ntmps52
    go_wp2_with (first | (go_at_call 51; (with_reducible refine (in_any p.x 0 10000 _).mono ?_); rintro e w' ⟨rfl, rfl⟩; rw [h1]) | (go_at_call 51; (with_reducible refine (in_any p.y 0 10000 _).mono ?_); rintro e w' ⟨rfl, rfl⟩))
    go_ret
    exact ⟨by simp [inPlan, h1], hb⟩
theorem sgn_compare (n : Int) : compareInt n 0 = sgn n := by unfold compareInt sgn; rfl
theorem signOf_any (n : Int) (w : World) : Calls Tryd.prog 108 #[.int .i64 n] w fun e w' => e = .returned (.int .i64 (sgn n)) ∧ w = w' := by
  go_enter Tryd.func108, Tryd.ntmps108
  go_wp2_with (go_at_call 93; (with_reducible refine (Tryd.cmp_Compare_int n 0 _).mono ?_); rintro e w' ⟨rfl, rfl⟩; rw [sgn_compare])
  go_ret
  exact ⟨rfl, rfl⟩
theorem up_any (n : Int) (w : World) : Calls Tryd.prog 87 #[.int .i64 n] w fun e w' => e = .returned (.bool (decide (0 < n))) ∧ w = w' := by
  go_enter Tryd.func87, Tryd.ntmps87
  go_wp2
  go_ret
  exact ⟨rfl, rfl⟩
theorem flat_any (n : Int) (w : World) : Calls Tryd.prog 94 #[.int .i64 n] w fun e w' => e = .returned (.bool (n == 0)) ∧ w = w' := by
  go_enter Tryd.func94, Tryd.ntmps94
  go_wp2
  go_ret
  exact ⟨rfl, rfl⟩
theorem down_any (n : Int) (w : World) : Calls Tryd.prog 61 #[.int .i64 n] w fun e w' => e = .returned (.bool (decide (n < 0))) ∧ w = w' := by
  go_enter Tryd.func61, Tryd.ntmps61
  go_wp2
  go_ret
  exact ⟨rfl, rfl⟩
/-- Not too great. -/
def SmP (p : Pnt) (n : Int) : Prop := -n ≤ p.x ∧ p.x ≤ n ∧ -n ≤ p.y ∧ p.y ≤ n
theorem minus_small {p q : Pnt} {n m : Int} (hp : SmP p n) (hq : SmP q m) : SmP (minusP p q) (n + m) := by
  obtain ⟨a, b, c, d⟩ := hp
  obtain ⟨a', b', c', d'⟩ := hq
  unfold SmP minusP
  dsimp only
  omega
theorem mul_small {a b n : Int} (h1 : -n ≤ a ∧ a ≤ n) (h2 : -n ≤ b ∧ b ≤ n) (hn : 0 ≤ n) : -(n * n) ≤ a * b ∧ a * b ≤ n * n := by
  have h : a.natAbs * b.natAbs ≤ n.natAbs * n.natAbs := Nat.mul_le_mul (by omega) (by omega)
  rw [← Int.natAbs_mul, ← Int.natAbs_mul] at h
  have h3 : 0 ≤ n * n := Int.mul_nonneg hn hn
  omega
theorem way_any (s : Sd) (w : World) (ha : SmP s.a 1000000) (hb : SmP s.b 1000000) : Calls Tryd.prog 96 #[.agg (sdCells s)] w fun e w' => e = .returned (pntVal (wayS s)) ∧ Below w.heap.size w w' := by
  obtain ⟨a1, a2, a3, a4⟩ := ha
  obtain ⟨b1, b2, b3, b4⟩ := hb
  have h1 : IntKind.i64.wrap (s.b.x - s.a.x) = s.b.x - s.a.x := IntWalk.i64_in _ (by omega)
  have h2 : IntKind.i64.wrap (s.b.y - s.a.y) = s.b.y - s.a.y := IntWalk.i64_in _ (by omega)
  go_enter Tryd.func96, Tryd.ntmps96
  go_wp2
  refine bodyPost_ret (v := pntVal (wayS s)) (by simp [results, Tryd.results96, go_sem, wayS, minusP]) rfl ⟨rfl, ((Below.refl _ w).alloc (Nat.le_refl _) _).alloc (by simp) _⟩
theorem cross_any (a b : Pnt) (w : World) (ha : SmP a 4000000) (hb : SmP b 4000000) : Calls Tryd.prog 69 #[pntVal a, pntVal b] w fun e w' => e = .returned (.int .i64 (crossP a b)) ∧ Below w.heap.size w w' := by
  obtain ⟨a1, a2, a3, a4⟩ := ha
  obtain ⟨b1, b2, b3, b4⟩ := hb
  have m1 := mul_small (n := 4000000) ⟨a1, a2⟩ ⟨b3, b4⟩ (by decide)
  have m2 := mul_small (n := 4000000) ⟨a3, a4⟩ ⟨b1, b2⟩ (by decide)
  have h1 : IntKind.i64.wrap (a.x * b.y) = a.x * b.y := IntWalk.i64_in _ (by omega)
  have h2 : IntKind.i64.wrap (a.y * b.x) = a.y * b.x := IntWalk.i64_in _ (by omega)
  have h3 : IntKind.i64.wrap (a.x * b.y - a.y * b.x) = a.x * b.y - a.y * b.x := IntWalk.i64_in _ (by omega)
  go_enter Tryd.func69, Tryd.ntmps69
  go_wp2
  go_ret
  exact ⟨rfl, ((Below.refl _ w).alloc (Nat.le_refl _) _).alloc (by simp) _⟩
theorem dot_any (a b : Pnt) (w : World) (ha : SmP a 4000000) (hb : SmP b 4000000) : Calls Tryd.prog 95 #[pntVal a, pntVal b] w fun e w' => e = .returned (.int .i64 (dotP a b)) ∧ Below w.heap.size w w' := by
  obtain ⟨a1, a2, a3, a4⟩ := ha
  obtain ⟨b1, b2, b3, b4⟩ := hb
  have m1 := mul_small (n := 4000000) ⟨a1, a2⟩ ⟨b1, b2⟩ (by decide)
  have m2 := mul_small (n := 4000000) ⟨a3, a4⟩ ⟨b3, b4⟩ (by decide)
  have h1 : IntKind.i64.wrap (a.x * b.x) = a.x * b.x := IntWalk.i64_in _ (by omega)
  have h2 : IntKind.i64.wrap (a.y * b.y) = a.y * b.y := IntWalk.i64_in _ (by omega)
  have h3 : IntKind.i64.wrap (a.x * b.x + a.y * b.y) = a.x * b.x + a.y * b.y := IntWalk.i64_in _ (by omega)
  go_enter Tryd.func95, Tryd.ntmps95
  go_wp2
  go_ret
  exact ⟨rfl, ((Below.refl _ w).alloc (Nat.le_refl _) _).alloc (by simp) _⟩
end Go.Proofs.YthojfhdenfhjfaaDoor
end
section
namespace Go.Proofs.YthojfhdenfhjfaaDoor
open Go

section
variable {P : Program} {ops : Array Oper} {md : Region.Mode} {C : World → Prop}

/-- Whatever order is picked, until number n alone is left. -/
def wpAnyL (P : Program) (md : Region.Mode) (ops : Array Oper) (C : World → Prop) (n : Nat) (Q : Act → Prop) : Nat → Array Bool → Act → Prop
  | 0, listed, a => Region.ready md ops listed = [n] ∧ Q a
  | fuel + 1, listed, a => (Region.ready md ops listed = [n] ∧ Q a) ∨
    (n ∉ Region.ready md ops listed ∧ Region.ready md ops listed ≠ [] ∧ ∀ i ∈ Region.ready md ops listed, qOp P ops C i (wpAnyL P md ops C n Q fuel (listed.setIfInBounds i true)) a)

/-- Behind the last one nothing is left. -/
theorem ready_done {n : Nat} {listed : Array Bool} (hno : ∀ (j : Nat) (o : Oper), ops[j]? = some o → ∀ e ∈ o.after, e.on ≠ n) (h : Region.ready md ops listed = [n]) : Region.ready md ops (listed.setIfInBounds n true) = [] := by
  refine List.eq_nil_iff_forall_not_mem.2 fun j hj => ?_
  obtain ⟨h0, o, ho, hall⟩ := mem_ready.1 hj
  have hjn : j ≠ n := fun e => by
    subst e
    have hm : j ∈ Region.ready md ops listed := by rw [h]; simp
    have h1 := (mem_ready.1 hm).1
    rcases Nat.lt_or_ge j listed.size with h' | h'
    · simp [h'] at h0
    · simp [Array.getElem?_eq_none h'] at h1
  have : j ∈ Region.ready md ops listed := mem_ready.2 ⟨by rw [getD_set_ne true (Ne.symm hjn)] at h0; exact h0, o, ho, fun e he hb => by
    have := hall e he hb
    rwa [getD_set_ne false (Ne.symm (hno j o ho e he))] at this⟩
  rw [h] at this
  exact hjn (by simpa using this)

theorem wpAny_of_last {n : Nat} {o : Oper} {Q : Act → Prop} {Q' : Exit → Act → World → Prop} (ho : ops[n]? = some o) (hg : o.guard = none) (hno : ∀ (j : Nat) (o : Oper), ops[j]? = some o → ∀ e ∈ o.after, e.on ≠ n)
    (hQ : ∀ a w, C w → Q a → o.wp P a w (fun a' w' => Q' .normal a' w') Q') : ∀ (fuel : Nat) (listed : Array Bool) (a : Act) (w : World), C w → wpAnyL P md ops C n Q fuel listed a → wpAny P md ops Q' (fuel + 1) listed a w := by
  have last : ∀ (fuel : Nat) (listed : Array Bool) (a : Act) (w : World), C w → Region.ready md ops listed = [n] → Q a → wpAny P md ops Q' (fuel + 1) listed a w := fun fuel listed a w hw hr hq => by
    refine ⟨fun h0 => (by rw [h0] at hr; cases hr), fun i hi => ?_⟩
    rw [hr] at hi
    have : i = n := by simpa using hi
    subst this
    unfold wpOp
    simp only [ho]
    have hw1 : Region.wanted o (yielded ops a.tmps) = true := by simp [Region.wanted, hg]
    rw [if_pos hw1]
    refine .inl (Oper.wp_mono (fun a' w' h' => ?_) (hQ a w hw hq))
    exact wpAny_done (ready_done hno hr) h' fuel
  intro fuel
  induction fuel with
  | zero => exact fun listed a w hw h => last 0 listed a w hw h.1 h.2
  | succ fuel ih =>
    intro listed a w hw h
    rcases h with ⟨hr, hq⟩ | ⟨_, hne, h⟩
    · exact last (fuel + 1) listed a w hw hr hq
    · exact ⟨fun h0 => absurd h0 hne, fun i hi => wpOp_of_qOp hw (fun a' w' hw' => ih _ a' w' hw') (h i hi)⟩

/-- Every operation waits, by some way, for all that stand behind it. -/
def Closed (md : Region.Mode) (ops : Array Oper) (listed : Array Bool) : Prop := ∀ (j : Nat) (o : Oper), ops[j]? = some o → listed.getD j false = true → ∀ e ∈ o.after, Region.binds md e = true → listed.getD e.on false = true
def Nexts (md : Region.Mode) (ops : Array Oper) (n : Nat) : Prop := ∀ k, k < n → ∃ j o, k < j ∧ j ≤ n ∧ ops[j]? = some o ∧ ∃ e ∈ o.after, Region.binds md e = true ∧ e.on = k
theorem Closed.set {listed : Array Bool} {i : Nat} (h : Closed md ops listed) (hi : i ∈ Region.ready md ops listed) : Closed md ops (listed.setIfInBounds i true) := fun j o hj hl e he hb => by
  by_cases hij : i = j
  · subst hij
    obtain ⟨_, o', ho', hall⟩ := mem_ready.1 hi
    rw [hj] at ho'; cases ho'
    exact getD_set_true (hall e he hb)
  · rw [getD_set_ne false hij] at hl
    exact getD_set_true (h j o hj hl e he hb)
theorem last_waits {n : Nat} {listed : Array Bool} (h : Closed md ops listed) (hn : Nexts md ops n) : ∀ (d k : Nat), n - k = d → k < n → listed.getD k false = false → n ∉ Region.ready md ops listed
  | 0, k, hd, hk, _ => by omega
  | _ + 1, k, hd, hk, hu => fun hr => by
    obtain ⟨j, o, hkj, hjn, ho, e, he, hb, rfl⟩ := hn k hk
    rcases Nat.lt_or_ge j n with hlt | hge
    · have hju : listed.getD j false = false := by
        cases q : listed.getD j false with
        | false => rfl
        | true => rw [h j o ho q e he hb] at hu; cases hu
      exact last_waits h hn (n - j) j rfl hlt hju hr
    · have : j = n := by omega
      subst this
      obtain ⟨_, o', ho', hall⟩ := mem_ready.1 hr
      rw [ho] at ho'; cases ho'
      rw [hall e he hb] at hu; cases hu
  termination_by _ k => n - k
theorem getD_un {listed : Array Bool} {i : Nat} (h : listed.getD i true = false) : listed.getD i false = false := by
  rcases Nat.lt_or_ge i listed.size with h' | h'
  · simpa [h'] using h
  · simp [Array.getElem?_eq_none h'] at h

theorem wpAnyL_first {n : Nat} {Q : Act → Prop} {i : Nat} {oi : Oper} {v : Value} (hin : i < n) (hnx : Nexts md ops n)
    (hi : ops[i]? = some oi) (hsel : ∀ (j : Nat) (o : Oper) cs b, ops[j]? = some o → o.op ≠ .select cs b) :
    ∀ (fuel : Nat) (listed : Array Bool) (a : Act), Closed md ops listed →
      (∀ j oj, ops[j]? = some oj → j ≠ i → listed.getD j true = false → (∀ e ∈ oj.after, Region.binds md e = true → e.on ≠ i) → oi.apart ops oj = true) →
      i ∈ Region.ready md ops listed → YieldsIn P ops C oi v a →
      wpAnyL P md ops C n Q fuel (listed.setIfInBounds i true) (a.put oi.dst v) → wpAnyL P md ops C n Q (fuel + 1) listed a := by
  have hnot : ∀ listed, Closed md ops listed → i ∈ Region.ready md ops listed → n ∉ Region.ready md ops listed := fun listed hc hr => last_waits hc hnx _ i rfl hin (getD_un (mem_ready.1 hr).1)
  intro fuel
  induction fuel with
  | zero =>
    intro listed a hc _ hr hy H
    refine .inr ⟨hnot _ hc hr, fun h => (by rw [h] at hr; cases hr), fun j hj => ?_⟩
    by_cases hji : j = i
    · subst hji; exact hy.qOp hi H
    · have h2 := ready_mono hj hji
      rw [H.1] at h2
      have : j = n := by simpa using h2
      subst this
      exact absurd hj (hnot _ hc hr)
  | succ fuel ih =>
    intro listed a hc hfree hr hy H
    refine .inr ⟨hnot _ hc hr, fun h => (by rw [h] at hr; cases hr), fun j hj => ?_⟩
    by_cases hji : j = i
    · subst hji; exact hy.qOp hi H
    · have hjr := ready_mono hj hji
      have h1 : qOp P ops C j (wpAnyL P md ops C n Q fuel ((listed.setIfInBounds i true).setIfInBounds j true)) (a.put oi.dst v) := by
        rcases H with ⟨H1, _⟩ | ⟨_, _, H1⟩
        · rw [H1] at hjr
          have : j = n := by simpa using hjr
          subst this
          exact absurd hj (hnot _ hc hr)
        · exact H1 j hjr
      obtain ⟨hjun, oj, hoj, hall⟩ := mem_ready.1 hj
      have hnw : ∀ e ∈ oj.after, Region.binds md e = true → e.on ≠ i := fun e he hb heq => by
        have h1 := hall e he hb
        have h0 := (mem_ready.1 hr).1
        rw [heq] at h1
        rcases Nat.lt_or_ge i listed.size with h' | h'
        · simp [h'] at h0 h1; rw [h0] at h1; cases h1
        · simp [Array.getElem?_eq_none h'] at h1
      have h2 := qOp_put hoj (hfree j oj hoj hji hjun hnw) (fun cs b => hsel i oi cs b hi) (fun cs b => hsel j oj cs b hoj) hy h1
      have hfree' : ∀ k ok, ops[k]? = some ok → k ≠ i → (listed.setIfInBounds j true).getD k true = false →
          (∀ e ∈ ok.after, Region.binds md e = true → e.on ≠ i) → oi.apart ops ok = true := fun k ok hk hki hun hno => by
        refine hfree k ok hk hki ?_ hno
        by_cases hjk : j = k
        · subst hjk; exact hjun
        · rw [getD_set_ne true hjk] at hun; exact hun
      refine qOp_mono (fun a' h3 => ih (listed.setIfInBounds j true) a' (hc.set hj) hfree' (ready_mono hr (Ne.symm hji)) h3.1 ?_) h2
      rw [Array.setIfInBounds_comm _ _ hji]
      exact h3.2

/-- The order of the text, up to number n. -/
def lexL (md : Region.Mode) (ops : Array Oper) (n : Nat) : Nat → Nat → Array Bool → Bool
  | 0, _, listed => Region.ready md ops listed == [n]
  | fuel + 1, k, listed => (Region.ready md ops listed).contains k && Region.free md ops listed k && decide (k < n) && lexL md ops n fuel (k + 1) (listed.setIfInBounds k true)
def noneWaits (ops : Array Oper) (n : Nat) : Bool := ops.all fun o => o.after.all fun e => e.on != n
def nextsB (md : Region.Mode) (ops : Array Oper) (n : Nat) : Bool := (List.range n).all fun k => (List.range (n + 1)).any fun j => decide (k < j) && (match ops[j]? with | some o => o.after.any fun e => Region.binds md e && e.on == k | none => false)
theorem nexts_of {n : Nat} (h : nextsB md ops n = true) : Nexts md ops n := fun k hk => by
  have h1 := List.all_eq_true.1 h k (List.mem_range.2 hk)
  obtain ⟨j, hj, h2⟩ := List.any_eq_true.1 h1
  have hjn := List.mem_range.1 hj
  rw [Bool.and_eq_true, decide_eq_true_eq] at h2
  obtain ⟨h3, h4⟩ := h2
  cases ho : ops[j]? with
  | none => rw [ho] at h4; cases h4
  | some o =>
    rw [ho] at h4
    obtain ⟨e, he, hb⟩ := Array.any_eq_true'.1 h4
    simp only [Bool.and_eq_true, beq_iff_eq] at hb
    exact ⟨j, o, h3, by omega, ho, e, he, hb.1, hb.2⟩
def lastB (ops : Array Oper) (n : Nat) : Bool :=
  match ops[n]? with
  | some o => Region.noSelect ops && o.guard.isNone && noneWaits ops n && (ops.size == n + 1) && nextsB .any ops n && lexL .any ops n n 0 (Array.replicate ops.size false)
  | none => false

theorem wpAnyL_lex {n : Nat} {Q : Act → Prop} (hnx : Nexts md ops n) (hs : Region.noSelect ops = true) : ∀ (l : List Oper) (k : Nat) (listed : Array Bool) (a : Act), Closed md ops listed → (∀ j, j < l.length → l[j]? = ops[k + j]?) →
    lexL md ops n l.length k listed = true → wpQuiet P ops C Q l a → wpAnyL P md ops C n Q l.length listed a
  | [], _, _, _, _, _, hB, h => ⟨by simpa [lexL] using hB, h⟩
  | x :: l, k, listed, a, hc, hl, hB, h => by
    have h0 : ops[k]? = some x := by simpa using (hl 0 (by simp)).symm
    simp only [List.length_cons, lexL, Bool.and_eq_true] at hB
    obtain ⟨⟨⟨hr, hf⟩, hwt⟩, hB'⟩ := hB
    have hst : qOp P ops C k (wpQuiet P ops C Q l) a := by unfold qOp; simp only [h0]; exact h
    obtain ⟨v, hy, hK⟩ := yieldsIn_of_qOp h0 hst
    have hr' : k ∈ Region.ready md ops listed := by simpa using hr
    exact wpAnyL_first (of_decide_eq_true hwt) hnx h0 (Region.noSelect_spec hs) l.length listed a hc (Region.free_spec h0 hf) hr' hy
      (wpAnyL_lex hnx hs l (k + 1) _ _ (hc.set hr') (fun j hj => by have := hl (j + 1) (by simpa using hj); simpa [Nat.add_assoc, Nat.add_comm 1 j] using this) hB' hK)

/-- **One walk in the order of the text, then the last operation.** -/
theorem wp_region_last {id : Nat} {Q : Exit → Act → World → Prop} {a : Act} {w : World} {lo : List Oper} (n : Nat) {o : Oper} (ho : lo[n]? = some o) (hm : P.follows .mixedOrders = true) (hB : lastB lo.toArray n = true)
    (h : wpQuiet P lo.toArray (fun w' => ∃ m, w' = w.drewN m) (fun a' => ∀ w', (∃ m, w' = w.drewN m) → o.wp P a' w' (fun a'' w'' => Q .normal a'' w'') Q) (lo.take n) a) : (Code.region id lo.toArray true).wp P Q a w := by
  have ho' : lo.toArray[n]? = some o := by simpa using ho
  unfold lastB at hB
  rw [ho'] at hB
  simp only [Bool.and_eq_true, beq_iff_eq] at hB
  obtain ⟨⟨⟨⟨⟨hs, hg⟩, hno⟩, hz⟩, hnx⟩, hL⟩ := hB
  have hz' : lo.length = n + 1 := by simpa using hz
  have hlen : (lo.take n).length = n := by rw [List.length_take]; omega
  have hw := wpAnyL_lex (md := .any) (nexts_of hnx) hs (lo.take n) 0 (Array.replicate lo.toArray.size false) a (fun j o _ hl => by rw [show (Array.replicate lo.toArray.size false).getD j false = false by simp [Array.getD_eq_getD_getElem?, Array.getElem?_replicate]; split <;> rfl] at hl; cases hl) (fun j hj => by rw [List.getElem?_take, if_pos (by omega)]; simp) (by rw [hlen]; exact hL) h
  rw [hlen] at hw
  refine wp_region_any hm ?_
  rw [hz]
  rw [hz] at hw
  refine wpAny_of_last ho' (by simpa using hg) (fun j oj hj e he => ?_) (fun a' w' hw' hq => hq w' hw') n _ a _ ⟨1, rfl⟩ hw
  have := Array.all_eq_true_iff_forall_mem.1 hno oj (Array.mem_of_getElem? hj)
  have := Array.all_eq_true_iff_forall_mem.1 this e he
  simpa using this
end
end Go.Proofs.YthojfhdenfhjfaaDoor
end
section
namespace Go.Proofs.YthojfhdenfhjfaaDoor
open Go.RowKit

section
variable {P : Program} (w : World)

theorem run_append_near (base : Nat) (t ty e : TypeId) (i : TypeInfo) (z : Value) (size bytes : Nat) (ht : P.underlying t = some (.slice e)) (hi : P.info? e = some i) (hz : i.zero = some z)
    (hsize : i.size = size) (hby : i.bytes = bytes) (hzs : z.cells.size = size) (hsz : 0 < size)
    (v : Value) (n : Nat) (xs : List Value) (hown : w.ownsRow base e size v n xs)
    (a : Addr) (m c : Nat) (news : List Value) (hl : news.length = m * size) (hnews : ∀ j u, news[j]? = some u → w.cell? (a.add j) = some u) (h1 : ∀ u ∈ news, u.oneCell' = true)
    (h63 : n + m ≤ maxLen) (hbytes : (n + m) * bytes ≤ 140737488355328) (hbase : base ≤ w.heap.size) :
    ∃ v' w', (Builtin.append_ #[t, t] ty #[v, .slice (some a) m c]).run P w = .ok v' w' ∧ w'.ownsRow base e size v' (n + m) (xs ++ news) ∧ w.grownBy w' v.ownBlock ∧
      (∀ k, v'.ownBlock = some k → v.ownBlock = some k ∨ w.heap.size ≤ k) := by
  rcases hown.2 with ⟨rfl, rfl⟩ | ⟨g, cap, cur, rfl, hbg, hg, hnc, hcm, hcs, htake⟩
  · have hx : xs = [] := List.eq_nil_of_length_eq_zero (by simpa using hown.1)
    subst hx
    obtain ⟨v', w', hr, h2, h3, _⟩ := run_append_own (P := P) w w.heap.size t ty e i z size bytes ht hi hz hsize hby hzs hsz _ 0 [] (World.ownsRow_nil w _ e size) a m c news hl hnews h1 h63 hbytes (Nat.le_refl _)
    refine ⟨v', w', hr, ⟨h2.1, ?_⟩, h3, fun k hk => .inr (h2.lt k hk).1⟩
    rcases h2.2 with h | ⟨g', cap', cur', hv, hg', r⟩
    · exact .inl h
    · exact .inr ⟨g', cap', cur', hv, Nat.le_trans hbase hg', r⟩
  · obtain ⟨v', w', hr, h2, h3, _⟩ := run_append_own (P := P) w base t ty e i z size bytes ht hi hz hsize hby hzs hsz _ n xs hown a m c news hl hnews h1 h63 hbytes hbase
    refine ⟨v', w', hr, h2, h3, fun k hk => ?_⟩
    subst hsize
    subst hby
    by_cases hroom : n + m ≤ cap
    · have hfit : n * i.size + news.length ≤ cur.size := by rw [hl, hcs, ← Nat.add_mul]; exact Nat.mul_le_mul_right _ hroom
      have hr2 := run_append_room (P := P) w t ty e i ht hi g n cap cur hg a m c news hl hnews h1 hroom hfit
      rw [hr] at hr2
      simp only [Result.ok.injEq] at hr2
      rw [hr2.1] at hk
      exact .inl hk
    · have hsmall : n + m ≤ 9223372036854775807 := by simp only [maxLen] at h63; omega
      have hr2 := run_append_grow (P := P) w t ty e i z ht hi hz ⟨g, 0, none⟩ n cap xs hown.1 (hown.cells (g := g) rfl) a m c news hl hnews (by omega) (by omega) (growslice_fits (by omega) hbytes)
      rw [hr] at hr2
      simp only [Result.ok.injEq] at hr2
      rw [hr2.1] at hk
      simp [Value.ownBlock] at hk
      exact .inr (by omega)

/-- append at the operation, for the walk: the row lies where it lay, or in a new block. -/
theorem wp_app {ops : Array Oper} {rest : List Oper} {o : Oper} {a : Act} {Q : Exit → Act → World → Prop} (hgd : o.guard = none) (s x : Operand) (t : TypeId)
    (ho : o.op = .call { callee := .builtin .append, args := #[s, x], argTypes := #[t, t] })
    (base : Nat) (e : TypeId) (size bytes : Nat) (ht : P.underlying t = some (.slice e)) {z : Value} (hinfo : (P.info? e).map (fun i => (i.zero, i.size, i.bytes)) = some (some z, size, bytes)) (hzs : z.cells.size = size) (hsz : 0 < size)
    (v : Value) (n : Nat) (xs : List Value) (hs : a.eval s = v) (hown : w.ownsRow base e size v n xs)
    (ad : Addr) (m c : Nat) (news : List Value) (hx : a.eval x = .slice (some ad) m c) (hl : news.length = m * size) (hnews : ∀ j u, news[j]? = some u → w.cell? (ad.add j) = some u) (h1 : ∀ u ∈ news, u.oneCell' = true)
    (h63 : n + m ≤ maxLen) (hbytes : (n + m) * bytes ≤ 140737488355328) (hbase : base ≤ w.heap.size)
    (h : ∀ v' w', w'.ownsRow base e size v' (n + m) (xs ++ news) → w.grownBy w' v.ownBlock → (∀ k, v'.ownBlock = some k → v.ownBlock = some k ∨ w.heap.size ≤ k) → wpList P ops Q rest (a.put o.dst v') w') : wpList P ops Q (o :: rest) a w :=
  wpList_plain hgd fun _ hK => by
    obtain ⟨i, hi, hzz⟩ := Option.map_eq_some_iff.1 hinfo
    simp only [Prod.mk.injEq] at hzz
    obtain ⟨hz, hsize, hby⟩ := hzz
    obtain ⟨v', w', hr, h2, h3, h4⟩ := run_append_near (P := P) w base t o.type e i z size bytes ht hi hz hsize hby hzs hsz v n xs hown ad m c news hl hnews h1 h63 hbytes hbase
    unfold Oper.wp execOp
    simp only [ho, resolve, invoke, builtin, Sem.run_bind, Sem.run_pure, Result.andThen_ok, List.map_toArray, List.map_cons, List.map_nil, hs, hx, hr]
    exact hK _ _ (h v' w' h2 h3 h4)
end

theorem ownsRow_raise {w : World} {base base' : Nat} {e : TypeId} {size n : Nat} {v : Value} {xs : List Value} (h : w.ownsRow base e size v n xs) (hb : base' ≤ base) : w.ownsRow base' e size v n xs := by
  obtain ⟨h1, h2⟩ := h
  refine ⟨h1, ?_⟩
  rcases h2 with h | ⟨g, cap, cur, hv, hg, r⟩
  · exact .inl h
  · exact .inr ⟨g, cap, cur, hv, Nat.le_trans hb hg, r⟩

theorem row_succ {W : World} {base : Nat} {e : TypeId} {size : Nat} {v : Value} {k : Nat} {xs : List Value} (h : W.ownsRow base e size v (k + 1) xs) : ∃ g cap, v = .slice (some ⟨g, 0, none⟩) (k + 1) cap ∧ k + 1 ≤ cap ∧ cap ≤ maxLen := by
  rcases h.2 with ⟨_, h0⟩ | ⟨g, cap, _, rfl, _, _, h1, h2, _⟩
  · omega
  · exact ⟨g, cap, rfl, h1, h2⟩

/-- A row whose block lies as it lay. -/
theorem ownsRow_same {w w1 : World} {base : Nat} {e : TypeId} {size n : Nat} {v : Value} {xs : List Value} (h : w.ownsRow base e size v n xs) (hs : ∀ k, v.ownBlock = some k → w1.heap[k]? = w.heap[k]?) : w1.ownsRow base e size v n xs := by
  obtain ⟨h1, h2⟩ := h
  refine ⟨h1, ?_⟩
  rcases h2 with h | ⟨g, cap, cur, rfl, hg, hh, r⟩
  · exact .inl h
  · exact .inr ⟨g, cap, cur, rfl, hg, (hs g rfl).trans hh, r⟩
end Go.Proofs.YthojfhdenfhjfaaDoor
end
