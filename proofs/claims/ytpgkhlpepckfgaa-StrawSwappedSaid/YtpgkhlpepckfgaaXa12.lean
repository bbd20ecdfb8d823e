/-
  The iterator of straw.taken: what it yields, walked.
-/
import Derived.Test.YtpgkhlpepckfgaaXa00
import Derived.Test.YtpgkhlpepckfgaaXa06
import Derived.Test.YtpgkhlpepckfgaaXa10
import Derived.Test.YtpgkhlpepckfgaaXa11
import Derived.Lib.MinMax
import Derived.LoopIn
import Derived.LoopNIn
import Derived.OwnWalkIn
import Derived.Shelf.Abstract
import Derived.Shelf.RegionOpen
import Derived.TacticsInMore
import Derived.WalkKit
set_option linter.all false
set_option linter.unusedVariables false
set_option linter.unusedSimpArgs false
namespace Go.Proofs.Ytpgkhlpepckfgaa
open Go.RowKit Go.Shelf Go.Lib

attribute [local go_sem] Oper.semAt_some

/-- What a round keeps: all blocks of cells, and all that lay below base, but those that are the body's own. -/
def KpM (base : Nat) (mine : World → Nat → Prop) (W W' : World) : Prop :=
  W.heap.size ≤ W'.heap.size ∧ (∀ k o, W.heap[k]? = some o → o.isCells = true ∨ k < base → ¬ mine W k → W'.heap[k]? = some o) ∧ ∀ k, k < W.heap.size → mine W' k → mine W k
theorem KpM.refl (base : Nat) (mine : World → Nat → Prop) (W : World) : KpM base mine W W := ⟨Nat.le_refl _, fun _ _ h _ _ => h, fun _ _ h => h⟩
theorem KpM.trans {base : Nat} {mine : World → Nat → Prop} {A B C : World} (h1 : KpM base mine A B) (h2 : KpM base mine B C) : KpM base mine A C :=
  ⟨Nat.le_trans h1.1 h2.1, fun k o hk hc hm => h2.2.1 k o (h1.2.1 k o hk hc hm) hc (fun hb => hm (h1.2.2 k (Array.getElem?_eq_some_iff.1 hk).1 hb)), fun k hk hm => h1.2.2 k hk (h2.2.2 k (Nat.lt_of_lt_of_le hk h1.1) hm)⟩
theorem KpM.low {base : Nat} {mine : World → Nat → Prop} {W W' : World} (h : KpM base mine W W') {k : Nat} (hk : k < base) (hs : k < W.heap.size) (hm : ¬ mine W k) : W'.heap[k]? = W.heap[k]? := by
  have := Array.getElem?_eq_getElem hs
  rw [this]
  exact h.2.1 k _ this (.inr hk) hm

theorem FlatRow.same {α : Type} {enc : α → List Value} {sz : Nat} {w w1 : World} {A : Option Addr} {l : List α} (h : FlatRow enc sz w A l) (hs : ∀ k, k < w.heap.size → w1.heap[k]? = w.heap[k]?) : FlatRow enc sz w1 A l :=
  ⟨h.1, fun i x hx => by
    obtain ⟨ad, e, hc⟩ := h.2 i x hx
    exact ⟨ad, e, fun j v hv => (World.cell?_of_block (hs _ (World.block_lt_of_cell? w _ (hc j v hv)))).trans (hc j v hv)⟩⟩
theorem lt_of_heap {w : World} {b : Nat} {o : Obj} (h : w.heap[b]? = some o) : b < w.heap.size := (Array.getElem?_eq_some_iff.1 h).1
theorem grown_set_alloc (w : World) (o : Obj) (b : Nat) (v : Value) : w.grownBy ((w.setCell ⟨b, 0, none⟩ v).alloc o) (some b) :=
  ⟨rfl, rfl, rfl, by rw [World.size_alloc, set_size]; omega, fun k hk hne => by
    rw [Below.heap_alloc _ _ _ (by rw [set_size]; exact hk)]
    exact Below.heap_setCell _ _ _ _ (by intro e; exact hne (by rw [e]))⟩

set_option maxHeartbeats 2000000 in
set_option maxRecDepth 100000 in
theorem taken1_in (F : Fence) (n : Nat) (h120 : F.fn 120) (hro : F.round = none) (hn : 1 ≤ n) (l bl bn : Nat) (A : Option Addr) (c : Nat) (lst : List Portion) (N0 : Int) (w0 : World) (hA : RdParts w0 A lst) (hm : Mild lst) (hN : 0 ≤ N0 ∧ N0 ≤ 1000000000000)
    (mine : World → Nat → Prop) (J : List (Bool × Portion) → World → Prop)
    (hJ : ∀ s X Y, J s X → X.grownBy Y (some bn) → J s Y)
    (hM : ∀ s X k, J s X → mine X k → k < X.heap.size ∧ w0.heap.size ≤ k ∧ k ≠ bl ∧ k ≠ bn)
    (hM2 : ∀ s X Y k, J s X → X.grownBy Y (some bn) → mine Y k → mine X k)
    (hY : ∀ pre x W, J pre W → pre.length < 2000002 → YieldAt F (n - 1) Try.prog l (encTaken x) W fun e W' => e = .returned (.bool true) ∧ J (pre ++ [x]) W' ∧ KpM w0.heap.size mine W W')
    (W : World) (hb : ∀ k, k < w0.heap.size → W.heap[k]? = w0.heap[k]?) (hs0 : w0.heap.size ≤ W.heap.size) (hbl : W.heap[bl]? = some (.cells #[.slice A lst.length c] 41 (0, 0))) (hbn : W.heap[bn]? = some (.cells #[.int .i64 N0] 3 (0, 0))) (hne : bl ≠ bn) (hbn0 : w0.heap.size ≤ bn) (h0 : J [] W) :
    CallsIn F n Try.prog 120 (#[.func (.yield l) #[] #[]] ++ #[.pointer (some ⟨bl, 0, none⟩), .pointer (some ⟨bn, 0, none⟩)]) W fun e W' => (∃ v, e = .returned v) ∧ ∃ xs, xs = takenL lst N0 ∧ J xs W' := by
  have hl1 := hA.1
  have e1 := cell_of_one hbl
  refine callsIn_of_wp Try.func120 rfl h120 ?_ hro
  simp only [Try.ntmps120, List.size_toArray, List.length_cons, List.length_nil, Nat.reduceAdd, Nat.reduceSub, Array.replicate_succ, Array.replicate_zero, List.push_toArray, List.append_toArray, List.nil_append, List.cons_append]
  gi_wp2
  gi_loopw [9] (fun i wr => ∃ k : Nat, i = .int .i64 k ∧ k ≤ lst.length ∧ Hid (J (takenL (lst.take k) N0) wr) ∧ Hid (wr.heap[bn]? = some (.cells #[.int .i64 (remL (lst.take k) N0)] 3 (0, 0))) ∧ Hid (wr.heap[bl]? = some (.cells #[.slice A lst.length c] 41 (0, 0))) ∧ Hid (∀ k, k < w0.heap.size → wr.heap[k]? = w0.heap[k]?) ∧ w0.heap.size ≤ wr.heap.size) (fun i _ => lst.length - (intOf i).toNat)
  case atStart => exact ⟨0, rfl, Nat.zero_le _, h0, hbn, hbl, hb, hs0⟩
  case round =>
    obtain ⟨k, rfl, hk, hJw, hbnw, hblw, hbw, hsw⟩ := hrel
    by_cases hlt : k < lst.length
    · obtain ⟨ad, hA', p0, p1⟩ := FlatRow.at2 (FlatRow.same hA hbw.out) hlt rfl
      subst hA'
      have hts := List.take_succ_eq_append_getElem hlt
      have hT := takenL_snoc lst[k] (lst.take k) N0
      have hR0 := remL_snoc lst[k] (lst.take k) N0
      rw [← hts] at hT hR0
      obtain ⟨q1, q2⟩ := hm.2 _ (List.getElem_mem hlt)
      obtain ⟨r1, r2⟩ := remL_bounds (lst.take k) N0 (fun p hp => hm.2 p (List.mem_of_mem_take hp)) hN.1
      obtain ⟨hN1, hN2⟩ := hN
      obtain ⟨pp, hpp⟩ : ∃ pp, pp = lst[k].plot := ⟨_, rfl⟩
      obtain ⟨ll, hll⟩ : ∃ ll, ll = lst[k].loads := ⟨_, rfl⟩
      obtain ⟨r, hr⟩ : ∃ r, r = remL (lst.take k) N0 := ⟨_, rfl⟩
      obtain ⟨pre, hpre⟩ : ∃ pre, pre = takenL (lst.take k) N0 := ⟨_, rfl⟩
      have hpl : pre.length ≤ 2 * k := by rw [hpre]; have := takenL_len (lst.take k) N0; rw [List.length_take] at this; omega
      have hlm := hm.1
      unfold stepP at hT
      rw [← hpp] at p0 hT
      rw [← hll] at p1 q1 q2 hT hR0
      rw [← hr] at r1 r2 hbnw hT hR0
      rw [← hpre] at hJw hT
      clear hpp hll hr hpre hts e1
      have hbnl := lt_of_heap hbnw.out
      have hbll := lt_of_heap hblw.out
      have c0 := cell_of_one hbnw.out
      have f0 := free_of_one hbnw.out
      have hg1 : Hid (∀ v, wr.grownBy ((wr.setCell ⟨bn, 0, none⟩ v).alloc (.cells #[.int .i64 pp, .int .i64 ll] 91)) (some bn)) := fun v => grown_set_alloc _ _ _ _
      obtain ⟨mm, hmm⟩ : ∃ mm, mm = min r ll := ⟨_, rfl⟩
      have m1 : 0 ≤ mm := by omega
      have m2 : mm ≤ r := by omega
      have m3 : mm ≤ ll := by omega
      have hmn : ∀ (w : World) (ts : Array TypeId) (t : TypeId), (Builtin.min_ ts t #[.int .i64 r, .int .i64 ll]).run Try.prog w = .ok (.int .i64 mm) w := fun w ts t => by rw [hmm]; exact run_min_ints w ts t _ _ _ _
      rw [← hmm] at hT hR0
      replace hT := Lib.hid hT
      replace hR0 := Lib.hid hR0
      replace hmm := Lib.hid hmm
      have hJ1 : Hid (J pre ((wr.setCell ⟨bn, 0, none⟩ (.int .i64 (r - mm))).alloc (.cells #[.int .i64 pp, .int .i64 ll] 91))) := hJ _ _ _ hJw.out (hg1.out _)
      have hK0 : Hid (∀ X, KpM w0.heap.size mine ((wr.setCell ⟨bn, 0, none⟩ (.int .i64 (r - mm))).alloc (.cells #[.int .i64 pp, .int .i64 ll] 91)) X → X.heap[wr.heap.size]? = some (.cells #[.int .i64 pp, .int .i64 ll] 91 (0, 0)) ∧ X.heap[bn]? = some (.cells #[.int .i64 (r - mm)] 3 (0, 0)) ∧ X.heap[bl]? = some (.cells #[.slice (some ad) lst.length c] 41 (0, 0)) ∧ (∀ k, k < w0.heap.size → X.heap[k]? = w0.heap[k]?) ∧ w0.heap.size ≤ X.heap.size ∧ wr.heap.size < X.heap.size) := fun X hX => by
        have hsz : ((wr.setCell ⟨bn, 0, none⟩ (.int .i64 (r - mm))).alloc (.cells #[.int .i64 pp, .int .i64 ll] 91)).heap.size = wr.heap.size + 1 := by rw [World.size_alloc, set_size]
        have hX' := hX
        obtain ⟨hX1, hX2, _⟩ := hX
        rw [hsz] at hX1
        have same : ∀ k, k < wr.heap.size → k ≠ bn → ((wr.setCell ⟨bn, 0, none⟩ (.int .i64 (r - mm))).alloc (.cells #[.int .i64 pp, .int .i64 ll] 91)).heap[k]? = wr.heap[k]? := fun k hk hne => (hg1.out _).block k hk (fun e => hne (Option.some.inj e))
        refine ⟨hX2 _ _ (heap_new _ _ _ (set_size _ _ _).symm) (.inl rfl) (fun hmi => ?_), hX2 _ _ (heap_old _ _ _ _ (by simpa using set_cells (o := 0) hbnw.out (.int .i64 (r - mm)))) (.inl rfl) (fun hmi => (hM _ _ _ hJ1.out hmi).2.2.2 rfl), hX2 _ _ ((same _ hbll hne).trans hblw.out) (.inl rfl) (fun hmi => (hM _ _ _ hJ1.out hmi).2.2.1 rfl), fun k hk => (KpM.low hX' hk (by rw [hsz]; omega) (fun hmi => by have := (hM _ _ _ hJ1.out hmi).2.1; omega)).trans ((same _ (by omega) (by omega)).trans (hbw.out k hk)), by omega, by omega⟩
        have := hM _ _ _ hJw.out (hM2 _ _ _ _ hJw.out (hg1.out _) hmi)
        omega
      by_cases h1 : 0 < mm
      · obtain ⟨fn, tmps, assign, body, hy, hR⟩ := hY pre (true, ⟨pp, mm⟩) _ hJ1.out (by omega)
        dsimp only [encTaken] at hy
        gi_wp2
        refine hR.mono ?_
        rintro e W3 ⟨rfl, hJ3, hk3⟩
        obtain ⟨x1, x2, x3, x4, x5, x6⟩ := hK0.out _ hk3
        by_cases h2 : mm < ll
        · have hc1 : W3.cell? ⟨wr.heap.size, 0, none⟩ = some (.int .i64 pp) := cell_of_two x1
          have hc2 : W3.cell? ⟨wr.heap.size, 1, none⟩ = some (.int .i64 ll) := by simp [World.cell?, x1]
          obtain ⟨fn2, tmps2, assign2, body2, hy2, hR2⟩ := hY _ (false, ⟨pp, ll - mm⟩) _ hJ3 (by simp; omega)
          dsimp only [encTaken] at hy2
          clear hy hR x1
          replace x2 := Lib.hid x2
          replace x3 := Lib.hid x3
          replace x4 := Lib.hid x4
          gi_wp2
          refine hR2.mono ?_
          rintro e W4 ⟨rfl, hJ4, hk4⟩
          have y2 : Hid (W4.heap[bn]? = some (.cells #[.int .i64 (r - mm)] 3 (0, 0))) := hk4.2.1 _ _ x2.out (.inl rfl) (fun hmi => (hM _ _ _ hJ3 hmi).2.2.2 rfl)
          have y3 : Hid (W4.heap[bl]? = some (.cells #[.slice (some ad) lst.length c] 41 (0, 0))) := hk4.2.1 _ _ x3.out (.inl rfl) (fun hmi => (hM _ _ _ hJ3 hmi).2.2.1 rfl)
          have y4 : Hid (∀ k, k < w0.heap.size → W4.heap[k]? = w0.heap[k]?) := fun k hk => (hk4.low hk (by omega) (fun hmi => by have := (hM _ _ _ hJ3 hmi).2.1; omega)).trans (x4.out k hk)
          have y5 : w0.heap.size ≤ W4.heap.size := Nat.le_trans x5 hk4.1
          gi_wp2
          exact ⟨⟨k + 1, by go_num, by omega, by unfold Hid; rw [hT.out, if_pos h1, if_pos h2]; simpa using hJ4, by unfold Hid; rw [hR0.out]; exact y2.out, y3, y4, y5⟩, by simp only [intOf]; omega⟩
        · replace x2 := Lib.hid x2
          replace x3 := Lib.hid x3
          replace x4 := Lib.hid x4
          have hc2 : W3.cell? ⟨wr.heap.size, 1, none⟩ = some (.int .i64 ll) := by simp [World.cell?, x1]
          clear x1
          gi_wp2
          refine ⟨fun _ h => (by cases h), ?_⟩
          gi_wp2
          exact ⟨⟨k + 1, by go_num, by omega, by unfold Hid; rw [hT.out, if_pos h1, if_neg (show ¬ mm < ll by omega)]; simpa using hJ3, by unfold Hid; rw [hR0.out]; exact x2.out, x3, x4, x5⟩, by simp only [intOf]; omega⟩
      · have hself := hK0.out _ (KpM.refl _ _ _)
        obtain ⟨x1, x2, x3, x4, x5, x6⟩ := hself
        replace x2 := Lib.hid x2
        replace x3 := Lib.hid x3
        replace x4 := Lib.hid x4
        clear x1
        by_cases h2 : mm < ll
        · obtain ⟨fn2, tmps2, assign2, body2, hy2, hR2⟩ := hY _ (false, ⟨pp, ll - mm⟩) _ hJ1.out (by omega)
          dsimp only [encTaken] at hy2
          gi_wp2
          refine ⟨fun _ h => (by cases h), ?_⟩
          gi_wp2
          refine hR2.mono ?_
          rintro e W4 ⟨rfl, hJ4, hk4⟩
          obtain ⟨_, z2, z3, z4, z5, _⟩ := hK0.out _ hk4
          replace z2 := Lib.hid z2
          replace z3 := Lib.hid z3
          replace z4 := Lib.hid z4
          gi_wp2
          exact ⟨⟨k + 1, by go_num, by omega, by unfold Hid; rw [hT.out, if_neg (show ¬ 0 < mm by omega), if_pos h2]; simpa using hJ4, by unfold Hid; rw [hR0.out]; exact z2.out, z3, z4, z5⟩, by simp only [intOf]; omega⟩
        · gi_wp2
          refine ⟨fun _ h => (by cases h), ?_⟩
          gi_wp2
          refine ⟨fun _ h => (by cases h), ?_⟩
          gi_wp2
          exact ⟨⟨k + 1, by go_num, by omega, by unfold Hid; rw [hT.out, if_neg (show ¬ 0 < mm by omega), if_neg (show ¬ mm < ll by omega)]; simpa using hJ1.out, by unfold Hid; rw [hR0.out]; exact x2.out, x3, x4, x5⟩, by simp only [intOf]; omega⟩
    · have hke : k = lst.length := by omega
      subst hke
      gi_wp2
      go_end0
      have := hJw.out
      rw [List.take_length] at this
      exact ⟨⟨_, rfl⟩, _, rfl, this⟩
end Go.Proofs.Ytpgkhlpepckfgaa
