/-
  The end of one way of straw.Choose's walk: is what was chosen the best yet? A region that draws its order, all of whose operations but the last only read, and whose last one waits for all others: one walk in the order of the text. No program is named here.
-/
import Derived.Test.YtpgkhlpepckfgaaXa06
import Derived.BigQuiet
import Derived.Deep.QuietTactic
import Derived.StillTailTactics
set_option linter.all false
set_option linter.unusedVariables false
set_option linter.unusedSimpArgs false
section
namespace Go.Proofs.Ytpgkhlpepckfgaa
open Go.RowKit Go.Lib Go.Maps

set_option maxHeartbeats 2000000 in
set_option maxRecDepth 100000 in
theorem leaf_any (w0 w : World) (M : Nat) (A : Option Addr) (c : Nat) (plots : List Plot) (dry : Int) (n : Need) (l : List Int) (b : Best) (vl : Value) (paid : Int) (hll : l.length ≤ 12) (hbl : b.choice.length ≤ 12) (hW : WS w0 M w A c plots dry n l b vl) :
    Calls Try.prog 44 (#[.int .i64 plots.length, .int .i64 paid] ++ caps w0.heap.size M) w fun e w' => e = .returned (.tuple #[]) ∧ ∃ vl', WS w0 M w' A c plots dry n l (leafP paid n l b) vl' ∧ Fr w0.heap.size M w vl w' vl' := by
  obtain ⟨m, hm⟩ := hW.mp
  have cf := cell_of_two hW.farm
  have cw := cell_of_one hW.want
  have hm := Lib.hid hm
  have hmx : ∀ (w : World) (ts : Array TypeId) (t : TypeId), (Builtin.max_ ts t #[.int .i64 n.reed, .int .i64 n.straw, .int .i64 n.heather]).run Try.prog w = .ok (.int .i64 (needMax n)) w := fun w ts t => run_max_int3 w ts t .i64 .i64 .i64 n.reed n.straw n.heather
  have hsz := hW.size
  have hM := hW.hM
  have z0 : w0.heap.size < w.heap.size := by omega
  have z2 : w0.heap.size + 2 < w.heap.size := by omega
  have z3 : w0.heap.size + 3 < w.heap.size := by omega
  have z4 : w0.heap.size + 4 < w.heap.size := by omega
  have z7 : M + 2 < w.heap.size := by omega
  obtain ⟨vc, hvl, hrl, hvc, hrc, hap⟩ := hW.rows
  obtain ⟨Al, kl, rfl⟩ := hrl.slice
  obtain ⟨Ac, kc, rfl⟩ := hrc.slice
  have cl := cell_of_one hvl
  have cc := cell_of_one hvc
  have fc := free_of_one hvc
  have cco := cell_of_one hW.cost
  have fco := free_of_one hW.cost
  have ff := free_of_one hW.found
  have hrl := Lib.hid hrl
  have hrc := Lib.hid hrc
  have hap := Lib.hid hap
  have hvl := Lib.hid hvl
  have hvc := Lib.hid hvc
  show Calls Try.prog 44 #[.int .i64 plots.length, .int .i64 paid, ptr w0.heap.size, ptr (M + 1), ptr (w0.heap.size + 4), ptr (w0.heap.size + 3), ptr (M + 2), ptr (w0.heap.size + 2), ptr (M + 3)] w _
  by_cases hpos : 0 < needMax n
  · have hL : Hid (leafP paid n l b = b) := if_pos hpos
    go_enter Try.func44, Try.ntmps44
    go_wp2_with (first | (at_lookup; refine wp_look _ rfl _ _ 93 rfl 74 3 (int_keyed Try.underlying74) Try.underlying93 (.int .i64 0) (zeroInt _) (M) m (needM n) rfl hm.out (.int .i64 1) _ rfl (keyOf_int_mk Try.underlying74 (by decide)) (.int .i64 n.reed) rfl ?_) | (at_lookup; refine wp_look _ rfl _ _ 93 rfl 74 3 (int_keyed Try.underlying74) Try.underlying93 (.int .i64 0) (zeroInt _) (M) m (needM n) rfl hm.out (.int .i64 2) _ rfl (keyOf_int_mk Try.underlying74 (by decide)) (.int .i64 n.straw) rfl ?_) | (at_lookup; refine wp_look _ rfl _ _ 93 rfl 74 3 (int_keyed Try.underlying74) Try.underlying93 (.int .i64 0) (zeroInt _) (M) m (needM n) rfl hm.out (.int .i64 3) _ rfl (keyOf_int_mk Try.underlying74 (by decide)) (.int .i64 n.heather) rfl ?_))
    all_goals
      exact bodyPost_ret (v := .tuple #[]) (by simp [results, Try.results44, go_sem]) rfl ⟨rfl, _, by rw [hL.out]; exact hW, Fr.of_below (Below.refl _ _)⟩
  · have hL : Hid (leafP paid n l b = if b.found = false then ⟨true, paid, l⟩ else if better paid l b < 0 then ⟨true, paid, l⟩ else b) := if_neg hpos
    have hpos2 := Int.not_lt.1 hpos
    have cfd := cell_of_one hW.found
    cases hfd : b.found with
    | false =>
      rw [hfd] at cfd
      have hL2 : Hid (leafP paid n l b = ⟨true, paid, l⟩) := by rw [hL.out, if_pos hfd]; rfl
      have hfd := Lib.hid hfd
      go_enter Try.func44, Try.ntmps44
      go_wp2_with (first | (at_lookup; refine wp_look _ rfl _ _ 93 rfl 74 3 (int_keyed Try.underlying74) Try.underlying93 (.int .i64 0) (zeroInt _) (M) m (needM n) rfl hm.out (.int .i64 1) _ rfl (keyOf_int_mk Try.underlying74 (by decide)) (.int .i64 n.reed) rfl ?_) | (at_lookup; refine wp_look _ rfl _ _ 93 rfl 74 3 (int_keyed Try.underlying74) Try.underlying93 (.int .i64 0) (zeroInt _) (M) m (needM n) rfl hm.out (.int .i64 2) _ rfl (keyOf_int_mk Try.underlying74 (by decide)) (.int .i64 n.straw) rfl ?_) | (at_lookup; refine wp_look _ rfl _ _ 93 rfl 74 3 (int_keyed Try.underlying74) Try.underlying93 (.int .i64 0) (zeroInt _) (M) m (needM n) rfl hm.out (.int .i64 3) _ rfl (keyOf_int_mk Try.underlying74 (by decide)) (.int .i64 n.heather) rfl ?_))
      all_goals
        go_quiet (fail)
        go_wp2_with (first | (go_at_call 48; refine (clone_any (World.drewN w _) (M + 4) _ l (by omega) (SlRow.drewN hrl.out _)).mono ?_; rintro e w1 ⟨A', c', rfl, hrow1, hb1⟩; replace hb1 := below_of_drewN hb1; have e2 := (hb1.cell (p := ⟨w0.heap.size + 2, 0, none⟩) z2).trans cc; have e3 := (hb1.cell (p := ⟨w0.heap.size + 3, 0, none⟩) z3).trans cco; have e4 := (hb1.cell (p := ⟨w0.heap.size + 4, 0, none⟩) z4).trans cfd; have f2 := (hb1.frozen (p := ⟨w0.heap.size + 2, 0, none⟩) z2).trans fc; have f3 := (hb1.frozen (p := ⟨w0.heap.size + 3, 0, none⟩) z3).trans fco; have f4 := (hb1.frozen (p := ⟨w0.heap.size + 4, 0, none⟩) z4).trans ff))
      all_goals
        exact bodyPost_ret (v := .tuple #[]) (by simp [results, Try.results44, go_sem]) rfl ⟨rfl, _, by rw [hL2.out]; exact hW.record hb1 hrow1 paid, Fr.record hb1⟩
    | true =>
      rw [hfd] at cfd
      have hL2 : Hid (leafP paid n l b = if better paid l b < 0 then ⟨true, paid, l⟩ else b) := by rw [hL.out, if_neg (by rw [hfd]; decide)]; rfl
      have hfd := Lib.hid hfd
      obtain ⟨Al', kl', el, rl⟩ := hrl.out.reads (by omega)
      obtain ⟨Ac', kc', ec, rc⟩ := hrc.out.reads (by omega)
      cases el
      cases ec
      have rl := Lib.hid rl
      have rc := Lib.hid rc
      go_enter Try.func44, Try.ntmps44
      go_wp2_with (first | (at_lookup; refine wp_look _ rfl _ _ 93 rfl 74 3 (int_keyed Try.underlying74) Try.underlying93 (.int .i64 0) (zeroInt _) (M) m (needM n) rfl hm.out (.int .i64 1) _ rfl (keyOf_int_mk Try.underlying74 (by decide)) (.int .i64 n.reed) rfl ?_) | (at_lookup; refine wp_look _ rfl _ _ 93 rfl 74 3 (int_keyed Try.underlying74) Try.underlying93 (.int .i64 0) (zeroInt _) (M) m (needM n) rfl hm.out (.int .i64 2) _ rfl (keyOf_int_mk Try.underlying74 (by decide)) (.int .i64 n.straw) rfl ?_) | (at_lookup; refine wp_look _ rfl _ _ 93 rfl 74 3 (int_keyed Try.underlying74) Try.underlying93 (.int .i64 0) (zeroInt _) (M) m (needM n) rfl hm.out (.int .i64 3) _ rfl (keyOf_int_mk Try.underlying74 (by decide)) (.int .i64 n.heather) rfl ?_))
      all_goals
        refine wp_region_still_tail 14 (by kernel_rfl) (by kernel_rfl) ?_
        simp only [List.take_succ_cons, List.take_zero, List.drop_succ_cons, List.drop_zero]
        repeat still_step
        still_call (Try.cmp_Compare_int _ _ _)
        repeat still_step
        still_call (Try.cmp_Compare_int _ _ _)
        repeat still_step
        still_call (cmpS_any _ _ _ _ _ _ _ rl.out rc.out)
        repeat still_step
        try refine wpStill_nil ?_
      all_goals
        change wpList _ _ _ _ _ w.drew
        go_wp2_with (first | (go_at_call 45; refine (or_any (some ⟨w.heap.size, 0, none⟩) 3 [compareInt paid b.cost, compareInt l.length b.choice.length, cmpL l b.choice] _ ?_).mono ?_; (exact rdInts_block (t := 3) (MapKept.heap_alloc w _).1 (by simp)); rintro e w' ⟨rfl, rfl⟩) | (go_at_call 48; refine (clone_any (World.drew (World.alloc w _)) (M + 4) _ l (by omega) (SlRow.below hrl.out (((Below.refl _ w).alloc (Nat.le_refl _) _).drew))).mono ?_; rintro e w1 ⟨A', c', rfl, hrow1, hb1⟩; replace hb1 := Below.trans ((((Below.refl _ w).alloc (Nat.le_refl _) _).drew)) (Below.mono hb1 (by simp)); have e2 := (hb1.cell (p := ⟨w0.heap.size + 2, 0, none⟩) z2).trans cc; have e3 := (hb1.cell (p := ⟨w0.heap.size + 3, 0, none⟩) z3).trans cco; have e4 := (hb1.cell (p := ⟨w0.heap.size + 4, 0, none⟩) z4).trans cfd; have f2 := (hb1.frozen (p := ⟨w0.heap.size + 2, 0, none⟩) z2).trans fc; have f3 := (hb1.frozen (p := ⟨w0.heap.size + 3, 0, none⟩) z3).trans fco; have f4 := (hb1.frozen (p := ⟨w0.heap.size + 4, 0, none⟩) z4).trans ff))
      · have hlt : better paid l b < 0 := ‹_›
        exact bodyPost_ret (v := .tuple #[]) (by simp [results, Try.results44, go_sem]) rfl ⟨rfl, _, by rw [hL2.out, if_pos hlt]; exact hW.record hb1 (ownsRow_raise hrow1 (by simp)) paid, Fr.record hb1⟩
      · have hge : ¬ better paid l b < 0 := Int.not_lt.2 ‹_›
        exact bodyPost_ret (v := .tuple #[]) (by simp [results, Try.results44, go_sem]) rfl ⟨rfl, _, by rw [hL2.out, if_neg hge]; exact hW.later (((Below.refl _ w).alloc (Nat.le_refl _) _).drew), Fr.of_below (((Below.refl _ w).alloc (Nat.le_refl _) _).drew)⟩
end Go.Proofs.Ytpgkhlpepckfgaa
end
section
namespace Go.Proofs.Ytpgkhlpepckfgaa
open Go

section
variable {P : Program} {ops : Array Oper} {md : Region.Mode} {C : World → Prop}

/-- Whatever order is picked, until number n alone is left. -/
def wpAnyL (P : Program) (md : Region.Mode) (ops : Array Oper) (C : World → Prop) (n : Nat) (Q : Act → Prop) : Nat → Array Bool → Act → Prop
  | 0, listed, a => Region.ready md ops listed = [n] ∧ Q a
  | fuel + 1, listed, a => (Region.ready md ops listed = [n] ∧ Q a) ∨
    (n ∉ Region.ready md ops listed ∧ Region.ready md ops listed ≠ [] ∧ ∀ i ∈ Region.ready md ops listed, qOp P ops C i (wpAnyL P md ops C n Q fuel (listed.setIfInBounds i true)) a)

/-- Behind the last one nothing is left. -/
theorem ready_done {n : Nat} {listed : Array Bool} (hno : ∀ (j : Nat) (o : Oper), ops[j]? = some o → ∀ e ∈ o.after, e.on ≠ n) (h : Region.ready md ops listed = [n]) : Region.ready md ops (listed.setIfInBounds n true) = [] := by
  refine List.eq_nil_iff_forall_not_mem.2 fun j hj => ?_
  obtain ⟨h0, o, ho, hall⟩ := mem_ready.1 hj
  have hjn : j ≠ n := fun e => by
    subst e
    have hm : j ∈ Region.ready md ops listed := by rw [h]; simp
    have h1 := (mem_ready.1 hm).1
    rcases Nat.lt_or_ge j listed.size with h' | h'
    · simp [h'] at h0
    · simp [Array.getElem?_eq_none h'] at h1
  have : j ∈ Region.ready md ops listed := mem_ready.2 ⟨by rw [getD_set_ne true (Ne.symm hjn)] at h0; exact h0, o, ho, fun e he hb => by
    have := hall e he hb
    rwa [getD_set_ne false (Ne.symm (hno j o ho e he))] at this⟩
  rw [h] at this
  exact hjn (by simpa using this)

theorem wpAny_of_last {n : Nat} {o : Oper} {Q : Act → Prop} {Q' : Exit → Act → World → Prop} (ho : ops[n]? = some o) (hg : o.guard = none) (hno : ∀ (j : Nat) (o : Oper), ops[j]? = some o → ∀ e ∈ o.after, e.on ≠ n)
    (hQ : ∀ a w, C w → Q a → o.wp P a w (fun a' w' => Q' .normal a' w') Q') : ∀ (fuel : Nat) (listed : Array Bool) (a : Act) (w : World), C w → wpAnyL P md ops C n Q fuel listed a → wpAny P md ops Q' (fuel + 1) listed a w := by
  have last : ∀ (fuel : Nat) (listed : Array Bool) (a : Act) (w : World), C w → Region.ready md ops listed = [n] → Q a → wpAny P md ops Q' (fuel + 1) listed a w := fun fuel listed a w hw hr hq => by
    refine ⟨fun h0 => (by rw [h0] at hr; cases hr), fun i hi => ?_⟩
    rw [hr] at hi
    have : i = n := by simpa using hi
    subst this
    unfold wpOp
    simp only [ho]
    have hw1 : Region.wanted o (yielded ops a.tmps) = true := by simp [Region.wanted, hg]
    rw [if_pos hw1]
    refine .inl (Oper.wp_mono (fun a' w' h' => ?_) (hQ a w hw hq))
    exact wpAny_done (ready_done hno hr) h' fuel
  intro fuel
  induction fuel with
  | zero => exact fun listed a w hw h => last 0 listed a w hw h.1 h.2
  | succ fuel ih =>
    intro listed a w hw h
    rcases h with ⟨hr, hq⟩ | ⟨_, hne, h⟩
    · exact last (fuel + 1) listed a w hw hr hq
    · exact ⟨fun h0 => absurd h0 hne, fun i hi => wpOp_of_qOp hw (fun a' w' hw' => ih _ a' w' hw') (h i hi)⟩

/-- Every operation waits, by some way, for all that stand behind it. -/
def Closed (md : Region.Mode) (ops : Array Oper) (listed : Array Bool) : Prop := ∀ (j : Nat) (o : Oper), ops[j]? = some o → listed.getD j false = true → ∀ e ∈ o.after, Region.binds md e = true → listed.getD e.on false = true
def Nexts (md : Region.Mode) (ops : Array Oper) (n : Nat) : Prop := ∀ k, k < n → ∃ j o, k < j ∧ j ≤ n ∧ ops[j]? = some o ∧ ∃ e ∈ o.after, Region.binds md e = true ∧ e.on = k
theorem Closed.set {listed : Array Bool} {i : Nat} (h : Closed md ops listed) (hi : i ∈ Region.ready md ops listed) : Closed md ops (listed.setIfInBounds i true) := fun j o hj hl e he hb => by
  by_cases hij : i = j
  · subst hij
    obtain ⟨_, o', ho', hall⟩ := mem_ready.1 hi
    rw [hj] at ho'; cases ho'
    exact getD_set_true (hall e he hb)
  · rw [getD_set_ne false hij] at hl
    exact getD_set_true (h j o hj hl e he hb)
theorem last_waits {n : Nat} {listed : Array Bool} (h : Closed md ops listed) (hn : Nexts md ops n) : ∀ (d k : Nat), n - k = d → k < n → listed.getD k false = false → n ∉ Region.ready md ops listed
  | 0, k, hd, hk, _ => by omega
  | _ + 1, k, hd, hk, hu => fun hr => by
    obtain ⟨j, o, hkj, hjn, ho, e, he, hb, rfl⟩ := hn k hk
    rcases Nat.lt_or_ge j n with hlt | hge
    · have hju : listed.getD j false = false := by
        cases q : listed.getD j false with
        | false => rfl
        | true => rw [h j o ho q e he hb] at hu; cases hu
      exact last_waits h hn (n - j) j rfl hlt hju hr
    · have : j = n := by omega
      subst this
      obtain ⟨_, o', ho', hall⟩ := mem_ready.1 hr
      rw [ho] at ho'; cases ho'
      rw [hall e he hb] at hu; cases hu
  termination_by _ k => n - k
theorem getD_un {listed : Array Bool} {i : Nat} (h : listed.getD i true = false) : listed.getD i false = false := by
  rcases Nat.lt_or_ge i listed.size with h' | h'
  · simpa [h'] using h
  · simp [Array.getElem?_eq_none h'] at h

theorem wpAnyL_first {n : Nat} {Q : Act → Prop} {i : Nat} {oi : Oper} {v : Value} (hin : i < n) (hnx : Nexts md ops n)
    (hi : ops[i]? = some oi) (hsel : ∀ (j : Nat) (o : Oper) cs b, ops[j]? = some o → o.op ≠ .select cs b) :
    ∀ (fuel : Nat) (listed : Array Bool) (a : Act), Closed md ops listed →
      (∀ j oj, ops[j]? = some oj → j ≠ i → listed.getD j true = false → (∀ e ∈ oj.after, Region.binds md e = true → e.on ≠ i) → oi.apart ops oj = true) →
      i ∈ Region.ready md ops listed → YieldsIn P ops C oi v a →
      wpAnyL P md ops C n Q fuel (listed.setIfInBounds i true) (a.put oi.dst v) → wpAnyL P md ops C n Q (fuel + 1) listed a := by
  have hnot : ∀ listed, Closed md ops listed → i ∈ Region.ready md ops listed → n ∉ Region.ready md ops listed := fun listed hc hr => last_waits hc hnx _ i rfl hin (getD_un (mem_ready.1 hr).1)
  intro fuel
  induction fuel with
  | zero =>
    intro listed a hc _ hr hy H
    refine .inr ⟨hnot _ hc hr, fun h => (by rw [h] at hr; cases hr), fun j hj => ?_⟩
    by_cases hji : j = i
    · subst hji; exact hy.qOp hi H
    · have h2 := ready_mono hj hji
      rw [H.1] at h2
      have : j = n := by simpa using h2
      subst this
      exact absurd hj (hnot _ hc hr)
  | succ fuel ih =>
    intro listed a hc hfree hr hy H
    refine .inr ⟨hnot _ hc hr, fun h => (by rw [h] at hr; cases hr), fun j hj => ?_⟩
    by_cases hji : j = i
    · subst hji; exact hy.qOp hi H
    · have hjr := ready_mono hj hji
      have h1 : qOp P ops C j (wpAnyL P md ops C n Q fuel ((listed.setIfInBounds i true).setIfInBounds j true)) (a.put oi.dst v) := by
        rcases H with ⟨H1, _⟩ | ⟨_, _, H1⟩
        · rw [H1] at hjr
          have : j = n := by simpa using hjr
          subst this
          exact absurd hj (hnot _ hc hr)
        · exact H1 j hjr
      obtain ⟨hjun, oj, hoj, hall⟩ := mem_ready.1 hj
      have hnw : ∀ e ∈ oj.after, Region.binds md e = true → e.on ≠ i := fun e he hb heq => by
        have h1 := hall e he hb
        have h0 := (mem_ready.1 hr).1
        rw [heq] at h1
        rcases Nat.lt_or_ge i listed.size with h' | h'
        · simp [h'] at h0 h1; rw [h0] at h1; cases h1
        · simp [Array.getElem?_eq_none h'] at h1
      have h2 := qOp_put hoj (hfree j oj hoj hji hjun hnw) (fun cs b => hsel i oi cs b hi) (fun cs b => hsel j oj cs b hoj) hy h1
      have hfree' : ∀ k ok, ops[k]? = some ok → k ≠ i → (listed.setIfInBounds j true).getD k true = false →
          (∀ e ∈ ok.after, Region.binds md e = true → e.on ≠ i) → oi.apart ops ok = true := fun k ok hk hki hun hno => by
        refine hfree k ok hk hki ?_ hno
        by_cases hjk : j = k
        · subst hjk; exact hjun
        · rw [getD_set_ne true hjk] at hun; exact hun
      refine qOp_mono (fun a' h3 => ih (listed.setIfInBounds j true) a' (hc.set hj) hfree' (ready_mono hr (Ne.symm hji)) h3.1 ?_) h2
      rw [Array.setIfInBounds_comm _ _ hji]
      exact h3.2

/-- The order of the text, up to number n. -/
def lexL (md : Region.Mode) (ops : Array Oper) (n : Nat) : Nat → Nat → Array Bool → Bool
  | 0, _, listed => Region.ready md ops listed == [n]
  | fuel + 1, k, listed => (Region.ready md ops listed).contains k && Region.free md ops listed k && decide (k < n) && lexL md ops n fuel (k + 1) (listed.setIfInBounds k true)
def noneWaits (ops : Array Oper) (n : Nat) : Bool := ops.all fun o => o.after.all fun e => e.on != n
def nextsB (md : Region.Mode) (ops : Array Oper) (n : Nat) : Bool := (List.range n).all fun k => (List.range (n + 1)).any fun j => decide (k < j) && (match ops[j]? with | some o => o.after.any fun e => Region.binds md e && e.on == k | none => false)
theorem nexts_of {n : Nat} (h : nextsB md ops n = true) : Nexts md ops n := fun k hk => by
  have h1 := List.all_eq_true.1 h k (List.mem_range.2 hk)
  obtain ⟨j, hj, h2⟩ := List.any_eq_true.1 h1
  have hjn := List.mem_range.1 hj
  rw [Bool.and_eq_true, decide_eq_true_eq] at h2
  obtain ⟨h3, h4⟩ := h2
  cases ho : ops[j]? with
  | none => rw [ho] at h4; cases h4
  | some o =>
    rw [ho] at h4
    obtain ⟨e, he, hb⟩ := Array.any_eq_true'.1 h4
    simp only [Bool.and_eq_true, beq_iff_eq] at hb
    exact ⟨j, o, h3, by omega, ho, e, he, hb.1, hb.2⟩
def lastB (ops : Array Oper) (n : Nat) : Bool :=
  match ops[n]? with
  | some o => Region.noSelect ops && o.guard.isNone && noneWaits ops n && (ops.size == n + 1) && nextsB .any ops n && lexL .any ops n n 0 (Array.replicate ops.size false)
  | none => false

theorem wpAnyL_lex {n : Nat} {Q : Act → Prop} (hnx : Nexts md ops n) (hs : Region.noSelect ops = true) : ∀ (l : List Oper) (k : Nat) (listed : Array Bool) (a : Act), Closed md ops listed → (∀ j, j < l.length → l[j]? = ops[k + j]?) →
    lexL md ops n l.length k listed = true → wpQuiet P ops C Q l a → wpAnyL P md ops C n Q l.length listed a
  | [], _, _, _, _, _, hB, h => ⟨by simpa [lexL] using hB, h⟩
  | x :: l, k, listed, a, hc, hl, hB, h => by
    have h0 : ops[k]? = some x := by simpa using (hl 0 (by simp)).symm
    simp only [List.length_cons, lexL, Bool.and_eq_true] at hB
    obtain ⟨⟨⟨hr, hf⟩, hwt⟩, hB'⟩ := hB
    have hst : qOp P ops C k (wpQuiet P ops C Q l) a := by unfold qOp; simp only [h0]; exact h
    obtain ⟨v, hy, hK⟩ := yieldsIn_of_qOp h0 hst
    have hr' : k ∈ Region.ready md ops listed := by simpa using hr
    exact wpAnyL_first (of_decide_eq_true hwt) hnx h0 (Region.noSelect_spec hs) l.length listed a hc (Region.free_spec h0 hf) hr' hy
      (wpAnyL_lex hnx hs l (k + 1) _ _ (hc.set hr') (fun j hj => by have := hl (j + 1) (by simpa using hj); simpa [Nat.add_assoc, Nat.add_comm 1 j] using this) hB' hK)

/-- **One walk in the order of the text, then the last operation.** -/
theorem wp_region_last {id : Nat} {Q : Exit → Act → World → Prop} {a : Act} {w : World} {lo : List Oper} (n : Nat) {o : Oper} (ho : lo[n]? = some o) (hm : P.follows .mixedOrders = true) (hB : lastB lo.toArray n = true)
    (h : wpQuiet P lo.toArray (fun w' => ∃ m, w' = w.drewN m) (fun a' => ∀ w', (∃ m, w' = w.drewN m) → o.wp P a' w' (fun a'' w'' => Q .normal a'' w'') Q) (lo.take n) a) : (Code.region id lo.toArray true).wp P Q a w := by
  have ho' : lo.toArray[n]? = some o := by simpa using ho
  unfold lastB at hB
  rw [ho'] at hB
  simp only [Bool.and_eq_true, beq_iff_eq] at hB
  obtain ⟨⟨⟨⟨⟨hs, hg⟩, hno⟩, hz⟩, hnx⟩, hL⟩ := hB
  have hz' : lo.length = n + 1 := by simpa using hz
  have hlen : (lo.take n).length = n := by rw [List.length_take]; omega
  have hw := wpAnyL_lex (md := .any) (nexts_of hnx) hs (lo.take n) 0 (Array.replicate lo.toArray.size false) a (fun j o _ hl => by rw [show (Array.replicate lo.toArray.size false).getD j false = false by simp [Array.getD_eq_getD_getElem?, Array.getElem?_replicate]; split <;> rfl] at hl; cases hl) (fun j hj => by rw [List.getElem?_take, if_pos (by omega)]; simp) (by rw [hlen]; exact hL) h
  rw [hlen] at hw
  refine wp_region_any hm ?_
  rw [hz]
  rw [hz] at hw
  refine wpAny_of_last ho' (by simpa using hg) (fun j oj hj e he => ?_) (fun a' w' hw' hq => hq w' hw') n _ a _ ⟨1, rfl⟩ hw
  have := Array.all_eq_true_iff_forall_mem.1 hno oj (Array.mem_of_getElem? hj)
  have := Array.all_eq_true_iff_forall_mem.1 this e he
  simpa using this
end
end Go.Proofs.Ytpgkhlpepckfgaa
end
