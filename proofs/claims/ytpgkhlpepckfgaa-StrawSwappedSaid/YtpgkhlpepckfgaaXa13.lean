/-
  straw.cut: the parts of the first loads of a list, and the rest: walked.
-/
import Derived.Test.YtpgkhlpepckfgaaXa05
import Derived.Test.YtpgkhlpepckfgaaXa12
import Derived.Maps.AppendAt
import Derived.RegionIn
import Derived.Stop.RegionWithIn
set_option linter.all false
set_option linter.unusedVariables false
set_option linter.unusedSimpArgs false
namespace Go.Proofs.Ytpgkhlpepckfgaa
open Go.RowKit Go.Shelf Go.Lib

attribute [local go_sem] Oper.semAt_some

/-- append at the operation, inside a fence: the row lies where it lay, or in a new block. -/
theorem wpIn_app {F : Fence} {n0 : Nat} {P : Program} (w : World) {ops : Array Oper} {rest : List Oper} {o : Oper} {a : Act} {Q : Exit → Act → World → Prop} (hgd : o.guard = none) (s x : Operand) (t : TypeId)
    (ho : o.op = .call { callee := .builtin .append, args := #[s, x], argTypes := #[t, t] })
    (base : Nat) (e : TypeId) (size bytes : Nat) (ht : P.underlying t = some (.slice e)) {z : Value} (hinfo : (P.info? e).map (fun i => (i.zero, i.size, i.bytes)) = some (some z, size, bytes)) (hzs : z.cells.size = size) (hsz : 0 < size)
    (v : Value) (n : Nat) (xs : List Value) (hs : a.eval s = v) (hown : w.ownsRow base e size v n xs)
    (ad : Addr) (m c : Nat) (news : List Value) (hx : a.eval x = .slice (some ad) m c) (hl : news.length = m * size) (hnews : ∀ j u, news[j]? = some u → w.cell? (ad.add j) = some u) (h1 : ∀ u ∈ news, u.oneCell' = true)
    (h63 : n + m ≤ maxLen) (hbytes : (n + m) * bytes ≤ 140737488355328) (hbase : base ≤ w.heap.size)
    (h : ∀ v' w', w'.ownsRow base e size v' (n + m) (xs ++ news) → w.grownBy w' v.ownBlock → (∀ k, v'.ownBlock = some k → v.ownBlock = some k ∨ w.heap.size ≤ k) → wpListIn F n0 P ops Q rest (a.put o.dst v') w') : wpListIn F n0 P ops Q (o :: rest) a w := by
  refine wpListIn_plain hgd fun K hK' => ?_
  obtain ⟨i, hi, hzz⟩ := Option.map_eq_some_iff.1 hinfo
  simp only [Prod.mk.injEq] at hzz
  obtain ⟨hz, hsize, hby⟩ := hzz
  obtain ⟨v', w', hrun, h2, h3, h4⟩ := run_append_near (P := P) w base t o.type e i z size bytes ht hi hz hsize hby hzs hsz v n xs hown ad m c news hl hnews h1 h63 hbytes hbase
  unfold Oper.wpIn
  refine ⟨?_, ?_⟩
  · simp [Oper.about, ho, resolve, Target.leads, Sem.run_pure]
  · rw [Oper.semAt_plain F _ _ (by rw [ho]; intro c hc'; cases hc')]
    simp [execOp, ho, resolve, invoke, builtin, hs, hx, hrun, Result.andThen]
    exact hK' _ _ (h v' w' h2 h3 h4)

theorem info91 : (Try.prog.info? 91).map (fun i => (i.zero, i.size, i.bytes)) = some (some (.agg #[.int .i64 0, .int .i64 0]), 2, 16) := by kernel_rfl

/-- A row of parts of the call's own. -/
def PRow (w : World) (base : Nat) (v : Value) (l : List Portion) : Prop := w.ownsRow base 91 2 v l.length (l.flatMap encPortion)
theorem PRow.nil (w : World) (base : Nat) : PRow w base (.slice none 0 0) [] := World.ownsRow_nil _ _ _ _
theorem PRow.same {w w1 : World} {base : Nat} {v : Value} {l : List Portion} (h : PRow w base v l) (hs : ∀ k, v.ownBlock = some k → w1.heap[k]? = w.heap[k]?) : PRow w1 base v l := ownsRow_same h hs
theorem PRow.reads {w : World} {base : Nat} {v : Value} {l : List Portion} (h : PRow w base v l) (hl : l.length ≤ 140737488351232) : ∃ A c, v = .slice A l.length c ∧ RdParts w A l := by
  rcases h.2 with ⟨rfl, h0⟩ | ⟨g, cap, cur, rfl, _⟩
  · have : l = [] := List.eq_nil_of_length_eq_zero h0
    subst this
    exact ⟨none, 0, rfl, by simp, by simp⟩
  · refine ⟨_, cap, rfl, hl, fun i x hx => ⟨_, rfl, fun j u hu => ?_⟩⟩
    exact h.cells (g := g) rfl _ _ (flat_get (sz := 2) (fun _ => rfl) l i x j u hx hu)
theorem PRow.slice {w : World} {base : Nat} {v : Value} {l : List Portion} (h : PRow w base v l) : ∃ A c, v = .slice A l.length c := by
  rcases h.2 with ⟨rfl, h0⟩ | ⟨g, cap, cur, rfl, _⟩
  · exact ⟨none, 0, by rw [h0]⟩
  · exact ⟨_, cap, rfl⟩
theorem PRow.snoc {w : World} {base : Nat} {v : Value} {l : List Portion} {p : Portion} (h : w.ownsRow base 91 2 v (l.length + 1) (l.flatMap encPortion ++ [.int .i64 p.plot, .int .i64 p.loads])) : PRow w base v (l ++ [p]) := by
  unfold PRow
  rw [List.length_append, List.flatMap_append]
  simpa [encPortion] using h

/-- What cut's body has in memory: two variables, each with a row of its own. -/
structure CutI (w : World) (pre : List (Bool × Portion)) (v1 v2 : Value) (W : World) : Prop where
  below : Below w.heap.size w W
  size : w.heap.size + 4 ≤ W.heap.size
  c1 : W.heap[w.heap.size]? = some (.cells #[v1] 41 (0, 0))
  c2 : W.heap[w.heap.size + 1]? = some (.cells #[v2] 41 (0, 0))
  r1 : PRow W (w.heap.size + 4) v1 (firstL pre)
  r2 : PRow W (w.heap.size + 4) v2 (restL pre)
  apart : ∀ j, v1.ownBlock = some j → v2.ownBlock ≠ some j
def CutJ (w : World) (pre : List (Bool × Portion)) (W : World) : Prop := ∃ v1 v2, CutI w pre v1 v2 W
def cutMine (w : World) (W : World) (k : Nat) : Prop :=
  k = w.heap.size ∨ k = w.heap.size + 1 ∨ (∃ v, W.heap[w.heap.size]? = some (.cells #[v] 41 (0, 0)) ∧ v.ownBlock = some k) ∨ ∃ v, W.heap[w.heap.size + 1]? = some (.cells #[v] 41 (0, 0)) ∧ v.ownBlock = some k
theorem cutMine_same {w W W' : World} {k : Nat} (h1 : W'.heap[w.heap.size]? = W.heap[w.heap.size]?) (h2 : W'.heap[w.heap.size + 1]? = W.heap[w.heap.size + 1]?) : cutMine w W' k ↔ cutMine w W k := by
  unfold cutMine; rw [h1, h2]
/-- What keeps the variables and the rows keeps all of it. -/
theorem CutI.kept {w W W' : World} {pre : List (Bool × Portion)} {v1 v2 : Value} (h : CutI w pre v1 v2 W) (hb : Below w.heap.size w W') (hs : W.heap.size ≤ W'.heap.size) (hk : ∀ k, cutMine w W k → W'.heap[k]? = W.heap[k]?) : CutI w pre v1 v2 W' :=
  ⟨hb, Nat.le_trans h.size hs, (hk _ (.inl rfl)).trans h.c1, (hk _ (.inr (.inl rfl))).trans h.c2, h.r1.same fun k e => hk k (.inr (.inr (.inl ⟨v1, h.c1, e⟩))), h.r2.same fun k e => hk k (.inr (.inr (.inr ⟨v2, h.c2, e⟩))), h.apart⟩
theorem CutI.mine {w W : World} {pre : List (Bool × Portion)} {v1 v2 : Value} (h : CutI w pre v1 v2 W) {k : Nat} (hm : cutMine w W k) : k < W.heap.size ∧ w.heap.size ≤ k ∧ k ≠ w.heap.size + 2 ∧ k ≠ w.heap.size + 3 ∧ ∃ c t, W.heap[k]? = some (.cells c t (0, 0)) := by
  have hs := h.size
  rcases hm with rfl | rfl | ⟨v, hv, e⟩ | ⟨v, hv, e⟩
  · exact ⟨by omega, by omega, by omega, by omega, _, _, h.c1⟩
  · exact ⟨by omega, by omega, by omega, by omega, _, _, h.c2⟩
  · rw [h.c1] at hv; cases hv
    have := h.r1.lt k e
    refine ⟨this.2, by omega, by omega, by omega, ?_⟩
    rcases h.r1.2 with ⟨rfl, _⟩ | ⟨g, cap, cur, rfl, _, hh, _⟩
    · simp [Value.ownBlock] at e
    · have : g = k := by simpa [Value.ownBlock] using e
      subst this; exact ⟨_, _, hh⟩
  · rw [h.c2] at hv; cases hv
    have := h.r2.lt k e
    refine ⟨this.2, by omega, by omega, by omega, ?_⟩
    rcases h.r2.2 with ⟨rfl, _⟩ | ⟨g, cap, cur, rfl, _, hh, _⟩
    · simp [Value.ownBlock] at e
    · have : g = k := by simpa [Value.ownBlock] using e
      subst this; exact ⟨_, _, hh⟩
/-- The turn of a block that is no cells, made since the loop began, or a store into the iterator's own variable. -/
theorem CutJ.grown {w : World} {pre : List (Bool × Portion)} {W W' : World} {row : Option Nat} (h : CutJ w pre W) (hg : W.grownBy W' row) (hr : ∀ r, row = some r → r = w.heap.size + 3 ∨ w.heap.size ≤ r ∧ ∃ o : Obj, W.heap[r]? = some o ∧ o.isCells = false) : CutJ w pre W' := by
  obtain ⟨v1, v2, h⟩ := h
  refine ⟨v1, v2, h.kept (h.below.grown hg h.below.size (fun k e => ?_)) hg.size fun k hm => ?_⟩
  · rcases hr k e with rfl | h2
    · omega
    · exact h2.1
  · obtain ⟨m1, m2, m3, m4, c, t, hc⟩ := h.mine hm
    refine hg.block k m1 (fun e => ?_)
    rcases hr k e.symm with e2 | ⟨_, o, ho, hoc⟩
    · exact m4 e2
    · rw [hc] at ho; cases ho; cases hoc
theorem CutI.push1 {w W w1 : World} {pre : List (Bool × Portion)} {v1 v2 v1' : Value} {o : Obj} (h : CutI w pre v1 v2 W) (p : Portion) (hown : w1.ownsRow (w.heap.size + 4) 91 2 v1' ((firstL pre).length + 1) ((firstL pre).flatMap encPortion ++ [.int .i64 p.plot, .int .i64 p.loads])) (hgrow : (W.alloc o).grownBy w1 v1.ownBlock)
    (hnear : ∀ j, v1'.ownBlock = some j → v1.ownBlock = some j ∨ (W.alloc o).heap.size ≤ j) :
    CutI w (pre ++ [(true, p)]) v1' v2 (w1.setCell ⟨w.heap.size, 0, none⟩ v1') ∧ KpM w.heap.size (cutMine w) W (w1.setCell ⟨w.heap.size, 0, none⟩ v1') ∧ KeepsFrom (w.heap.size + 4) W (w1.setCell ⟨w.heap.size, 0, none⟩ v1') := by
  have hs := h.size
  have hz := hgrow.size
  rw [World.size_alloc] at hz hnear
  have b1 : ∀ j, v1.ownBlock = some j → w.heap.size + 4 ≤ j ∧ j < W.heap.size := fun j hj => h.r1.lt j hj
  have b2 : ∀ j, v2.ownBlock = some j → w.heap.size + 4 ≤ j ∧ j < W.heap.size := fun j hj => h.r2.lt j hj
  have keep : ∀ j, j < W.heap.size → v1.ownBlock ≠ some j → w1.heap[j]? = W.heap[j]? := fun j hj hne => (hgrow.block j (by rw [World.size_alloc]; omega) (fun e => hne e.symm)).trans (((Below.refl _ W).alloc (Nat.le_refl _) o).block j hj)
  have set : ∀ j, j ≠ w.heap.size → (w1.setCell ⟨w.heap.size, 0, none⟩ v1').heap[j]? = w1.heap[j]? := fun j hj => Below.heap_setCell _ _ _ _ (by simpa using hj)
  have k1 : w1.heap[w.heap.size]? = W.heap[w.heap.size]? := keep _ (by omega) (fun e => by have := b1 _ e; omega)
  have k2 : w1.heap[w.heap.size + 1]? = W.heap[w.heap.size + 1]? := keep _ (by omega) (fun e => by have := b1 _ e; omega)
  have hn1 : (w1.setCell ⟨w.heap.size, 0, none⟩ v1').heap[w.heap.size]? = some (.cells #[v1'] 41 (0, 0)) := by simpa using set_cells (o := 0) (k1.trans h.c1) v1'
  have hn2 : (w1.setCell ⟨w.heap.size, 0, none⟩ v1').heap[w.heap.size + 1]? = some (.cells #[v2] 41 (0, 0)) := (set _ (by omega)).trans (k2.trans h.c2)
  have hap : ∀ j, v1'.ownBlock = some j → v2.ownBlock ≠ some j := fun j hj hj2 => by
    rcases hnear j hj with e | e
    · exact h.apart j e hj2
    · have := b2 j hj2; omega
  have hrow := PRow.snoc hown
  refine ⟨⟨?_, by rw [set_size]; omega, hn1, hn2, ?_, ?_, hap⟩, ⟨by rw [set_size]; omega, fun k ob hk hc hm => ?_, fun k hk hm => ?_⟩, ⟨by rw [set_size]; omega, fun k ob hB hk hc => ?_⟩⟩
  · exact ((h.below.alloc h.below.size _).grown hgrow (by rw [World.size_alloc]; have := h.below.size; omega) (fun j hj => by have := b1 j hj; omega)).setCell (p := ⟨w.heap.size, 0, none⟩) (Nat.le_refl _) _
  · rw [firstL_snoc]
    exact hrow.same fun j hj => set j (by have := hrow.lt j hj; omega)
  · rw [restL_snoc, if_pos rfl, List.append_nil]
    exact h.r2.same fun j hj => (set j (by have := b2 j hj; omega)).trans (keep j (b2 j hj).2 (fun e => h.apart j e hj))
  · have hkl := (Array.getElem?_eq_some_iff.1 hk).1
    exact (set k (fun e => hm (.inl e))).trans ((keep k hkl (fun e => hm (.inr (.inr (.inl ⟨v1, h.c1, e⟩))))).trans hk)
  · rcases hm with e | e | ⟨v, hv, e⟩ | ⟨v, hv, e⟩
    · exact .inl e
    · exact .inr (.inl e)
    · rw [hn1] at hv; cases hv
      rcases hnear k e with e2 | e2
      · exact .inr (.inr (.inl ⟨v1, h.c1, e2⟩))
      · omega
    · rw [hn2] at hv; cases hv
      exact .inr (.inr (.inr ⟨v2, h.c2, e⟩))
  · have hkl := (Array.getElem?_eq_some_iff.1 hk).1
    refine (set k (by omega)).trans ((keep k hkl (fun e => ?_)).trans hk)
    obtain ⟨_, _, _, _, c, t, hcc⟩ := h.mine (.inr (.inr (.inl ⟨v1, h.c1, e⟩)))
    rw [hk] at hcc; cases hcc; cases hc
theorem CutI.push2 {w W w1 : World} {pre : List (Bool × Portion)} {v1 v2 v9' : Value} {o : Obj} (h : CutI w pre v1 v2 W) (p : Portion) (hown : w1.ownsRow (w.heap.size + 4) 91 2 v9' ((restL pre).length + 1) ((restL pre).flatMap encPortion ++ [.int .i64 p.plot, .int .i64 p.loads])) (hgrow : (W.alloc o).grownBy w1 v2.ownBlock)
    (hnear : ∀ j, v9'.ownBlock = some j → v2.ownBlock = some j ∨ (W.alloc o).heap.size ≤ j) :
    CutI w (pre ++ [(false, p)]) v1 v9' (w1.setCell ⟨w.heap.size + 1, 0, none⟩ v9') ∧ KpM w.heap.size (cutMine w) W (w1.setCell ⟨w.heap.size + 1, 0, none⟩ v9') ∧ KeepsFrom (w.heap.size + 4) W (w1.setCell ⟨w.heap.size + 1, 0, none⟩ v9') := by
  have hs := h.size
  have hz := hgrow.size
  rw [World.size_alloc] at hz hnear
  have b1 : ∀ j, v1.ownBlock = some j → w.heap.size + 4 ≤ j ∧ j < W.heap.size := fun j hj => h.r1.lt j hj
  have b2 : ∀ j, v2.ownBlock = some j → w.heap.size + 4 ≤ j ∧ j < W.heap.size := fun j hj => h.r2.lt j hj
  have keep : ∀ j, j < W.heap.size → v2.ownBlock ≠ some j → w1.heap[j]? = W.heap[j]? := fun j hj hne => (hgrow.block j (by rw [World.size_alloc]; omega) (fun e => hne e.symm)).trans (((Below.refl _ W).alloc (Nat.le_refl _) o).block j hj)
  have set : ∀ j, j ≠ w.heap.size + 1 → (w1.setCell ⟨w.heap.size + 1, 0, none⟩ v9').heap[j]? = w1.heap[j]? := fun j hj => Below.heap_setCell _ _ _ _ (by simpa using hj)
  have k1 : w1.heap[w.heap.size]? = W.heap[w.heap.size]? := keep _ (by omega) (fun e => by have := b2 _ e; omega)
  have k2 : w1.heap[w.heap.size + 1]? = W.heap[w.heap.size + 1]? := keep _ (by omega) (fun e => by have := b2 _ e; omega)
  have hn2 : (w1.setCell ⟨w.heap.size + 1, 0, none⟩ v9').heap[w.heap.size + 1]? = some (.cells #[v9'] 41 (0, 0)) := by simpa using set_cells (o := 0) (k2.trans h.c2) v9'
  have hn1 : (w1.setCell ⟨w.heap.size + 1, 0, none⟩ v9').heap[w.heap.size]? = some (.cells #[v1] 41 (0, 0)) := (set _ (by omega)).trans (k1.trans h.c1)
  have hap : ∀ j, v1.ownBlock = some j → v9'.ownBlock ≠ some j := fun j hj hj2 => by
    rcases hnear j hj2 with e | e
    · exact h.apart j hj e
    · have := b1 j hj; omega
  have hrow := PRow.snoc hown
  refine ⟨⟨?_, by rw [set_size]; omega, hn1, hn2, ?_, ?_, hap⟩, ⟨by rw [set_size]; omega, fun k ob hk hc hm => ?_, fun k hk hm => ?_⟩, ⟨by rw [set_size]; omega, fun k ob hB hk hc => ?_⟩⟩
  · exact ((h.below.alloc h.below.size _).grown hgrow (by rw [World.size_alloc]; have := h.below.size; omega) (fun j hj => by have := b2 j hj; omega)).setCell (p := ⟨w.heap.size + 1, 0, none⟩) (by show w.heap.size ≤ w.heap.size + 1; omega) _
  · rw [firstL_snoc, if_neg (by simp), List.append_nil]
    exact h.r1.same fun j hj => (set j (by have := b1 j hj; omega)).trans (keep j (b1 j hj).2 (fun e => h.apart j hj e))
  · rw [restL_snoc]
    exact hrow.same fun j hj => set j (by have := hrow.lt j hj; omega)
  · have hkl := (Array.getElem?_eq_some_iff.1 hk).1
    exact (set k (fun e => hm (.inr (.inl e)))).trans ((keep k hkl (fun e => hm (.inr (.inr (.inr ⟨v2, h.c2, e⟩))))).trans hk)
  · rcases hm with e | e | ⟨v, hv, e⟩ | ⟨v, hv, e⟩
    · exact .inl e
    · exact .inr (.inl e)
    · rw [hn1] at hv; cases hv
      exact .inr (.inr (.inl ⟨v1, h.c1, e⟩))
    · rw [hn2] at hv; cases hv
      rcases hnear k e with e2 | e2
      · exact .inr (.inr (.inr ⟨v2, h.c2, e2⟩))
      · omega
  · have hkl := (Array.getElem?_eq_some_iff.1 hk).1
    refine (set k (by omega)).trans ((keep k hkl (fun e => ?_)).trans hk)
    obtain ⟨_, _, _, _, c, t, hcc⟩ := h.mine (.inr (.inr (.inr ⟨v2, h.c2, e⟩)))
    rw [hk] at hcc; cases hcc; cases hc
theorem CutJ.kpAlloc {w W : World} {pre : List (Bool × Portion)} (h : CutJ w pre W) (o : Obj) : KpM w.heap.size (cutMine w) W (W.alloc o) := by
  obtain ⟨v1, v2, h⟩ := h
  have := h.size
  exact ⟨by rw [World.size_alloc]; omega, fun k ob hk _ _ => (Below.heap_alloc _ _ _ (Array.getElem?_eq_some_iff.1 hk).1).trans hk, fun k hk hm => (cutMine_same (Below.heap_alloc _ _ _ (by omega)) (Below.heap_alloc _ _ _ (by omega))).1 hm⟩
theorem new_two (W : World) (p : Portion) : ∀ j u, ([.int .i64 p.plot, .int .i64 p.loads] : List Value)[j]? = some u → (W.alloc (.cells #[.int .i64 p.plot, .int .i64 p.loads] 91)).cell? ((⟨W.heap.size, 0, none⟩ : Addr).add j) = some u := fun j u hu => by
  rw [lit_add]
  have := heap_new W (.cells #[.int .i64 p.plot, .int .i64 p.loads] 91) _ rfl
  simp only [World.cell?, this]
  simpa using hu
theorem CutI.before1 {w W w1 : World} {pre : List (Bool × Portion)} {v1 v2 : Value} {o : Obj} (h : CutI w pre v1 v2 W) (hgrow : (W.alloc o).grownBy w1 v1.ownBlock) : w1.cell? ⟨w.heap.size, 0, none⟩ = some v1 ∧ w1.frozen? ⟨w.heap.size, 0, none⟩ = false := by
  have := h.size
  have hk := (hgrow.block w.heap.size (by rw [World.size_alloc]; omega) (fun e => by have := (h.r1.lt _ e.symm).1; omega)).trans ((Below.heap_alloc W o _ (by omega)).trans h.c1)
  exact ⟨cell_of_one hk, free_of_one hk⟩
theorem CutI.before2 {w W w1 : World} {pre : List (Bool × Portion)} {v1 v2 : Value} {o : Obj} (h : CutI w pre v1 v2 W) (hgrow : (W.alloc o).grownBy w1 v2.ownBlock) : w1.cell? ⟨w.heap.size + 1, 0, none⟩ = some v2 ∧ w1.frozen? ⟨w.heap.size + 1, 0, none⟩ = false := by
  have := h.size
  have hk := (hgrow.block (w.heap.size + 1) (by rw [World.size_alloc]; omega) (fun e => by have := (h.r2.lt _ e.symm).1; omega)).trans ((Below.heap_alloc W o _ (by omega)).trans h.c2)
  exact ⟨cell_of_one hk, free_of_one hk⟩
/-- What is read lies on where a block that is no cells is turned. -/
theorem FlatRow.put {α : Type} {enc : α → List Value} {sz : Nat} {w : World} {A : Option Addr} {l : List α} (h : FlatRow enc sz w A l) {D : Nat} {o o' : Obj} (hD : w.heap[D]? = some o) (hc : o.isCells = false := by rfl) : FlatRow enc sz (w.putObj D o') A l :=
  ⟨h.1, fun i x hx => by
    obtain ⟨ad, e, hcc⟩ := h.2 i x hx
    refine ⟨ad, e, fun j v hv => ?_⟩
    have h0 := hcc j v hv
    obtain ⟨ob, ho, hoc⟩ := cells_of_cell h0
    refine (World.cell?_of_block (World.putObj_heap_other (fun e2 => ?_))).trans h0
    rw [e2, hD] at ho; cases ho; rw [hc] at hoc; cases hoc⟩
theorem RdParts.put {w : World} {A : Option Addr} {l : List Portion} (h : RdParts w A l) {D : Nat} {o o' : Obj} (hD : w.heap[D]? = some o) (hc : o.isCells = false := by rfl) : RdParts (w.putObj D o') A l := FlatRow.put h hD hc

theorem makeFunc_run' (fn : Fn) (first cap : Array Value) (w : World) : (Instr.makeFunc fn first cap).run Try.prog w = .ok (.func fn first cap) w := rfl
set_option maxHeartbeats 400000 in
theorem taken_any (A : Option Addr) (c : Nat) (l : List Portion) (N0 : Int) (w : World) :
    Calls Try.prog 90 #[.slice A l.length c, .int .i64 N0] w fun e w' => e = .returned (.func (.func 120) #[] #[.pointer (some ⟨w.heap.size, 0, none⟩), .pointer (some ⟨w.heap.size + 1, 0, none⟩)]) ∧ w' = (w.alloc (.cells #[.slice A l.length c] 41)).alloc (.cells #[.int .i64 N0] 3) := by
  have hmf := makeFunc_run'
  go_enter Try.func90, Try.ntmps90
  go_wp2
  go_ret
  exact ⟨rfl, rfl⟩

set_option maxHeartbeats 2000000 in
set_option maxRecDepth 100000 in
theorem cut_in (A : Option Addr) (c : Nat) (l : List Portion) (N0 : Int) (w : World) (hA : RdParts w A l) (hm : Mild l) (hN : 0 ≤ N0 ∧ N0 ≤ 1000000000000) :
    CallsIn Fence.wide 5 Try.prog 69 #[.slice A l.length c, .int .i64 N0] w fun e w' => ∃ A1 c1 A2 c2, e = .returned (.tuple #[.slice A1 (cutF l N0).length c1, .slice A2 (cutR l N0).length c2]) ∧ RdParts w' A1 (cutF l N0) ∧ RdParts w' A2 (cutR l N0) ∧ Below w.heap.size w w' ∧ (∀ k, A1.map (·.block) = some k → w.heap.size ≤ k) ∧ (∀ k, A2.map (·.block) = some k → w.heap.size ≤ k) := by
  have hro : Fence.wide.round = none := rfl
  refine callsIn_of_wp_marks Try.func69 rfl trivial ?_ hro
  simp only [Try.ntmps69, List.size_toArray, List.length_cons, List.length_nil, Nat.reduceAdd, Nat.reduceSub, Array.replicate_succ, Array.replicate_zero, List.push_toArray, List.append_toArray, List.nil_append, List.cons_append]
  gi_wp2_with (refine ⟨trivial, ?_⟩; gi_at_call 90; refine (callsIn_wide.2 (taken_any A c l N0 _)).mono ?_; rintro e w' ⟨rfl, rfl⟩)
  obtain ⟨W0, hW0⟩ : ∃ W0, W0 = (((w.alloc (.cells #[.slice none 0 0] 41)).alloc (.cells #[.slice none 0 0] 41)).alloc (.cells #[.slice A l.length c] 41)).alloc (.cells #[.int .i64 N0] 3) := ⟨_, rfl⟩
  have hsz : W0.heap.size = w.heap.size + 4 := by rw [hW0]; simp
  have hB0 : Below w.heap.size w W0 := by rw [hW0]; exact ((((Below.refl _ w).alloc (Nat.le_refl _) _).alloc (by simp) _).alloc (by simp; omega) _).alloc (by simp; omega) _
  have g0 : W0.heap[w.heap.size]? = some (.cells #[.slice none 0 0] 41 (0, 0)) := by rw [hW0]; exact heap_old _ _ _ _ (heap_old _ _ _ _ (heap_old _ _ _ _ (heap_new _ _ _ rfl)))
  have g1 : W0.heap[w.heap.size + 1]? = some (.cells #[.slice none 0 0] 41 (0, 0)) := by rw [hW0]; exact heap_old _ _ _ _ (heap_old _ _ _ _ (heap_new _ _ _ (by simp)))
  have g2 : W0.heap[w.heap.size + 2]? = some (.cells #[.slice A l.length c] 41 (0, 0)) := by rw [hW0]; exact heap_old _ _ _ _ (heap_new _ _ _ (by simp))
  have g3 : W0.heap[w.heap.size + 3]? = some (.cells #[.int .i64 N0] 3 (0, 0)) := by rw [hW0]; exact heap_new _ _ _ (by simp)
  have hI0 : CutJ w [] W0 := ⟨_, _, hB0, by omega, g0, g1, PRow.nil _ _, PRow.nil _ _, fun j hj => by simp [Value.ownBlock] at hj⟩
  rw [← hW0]
  clear hW0
  refine range_law hro (by decide) (gf := 120) (lb := #[.pointer (some ⟨w.heap.size + 2, 0, none⟩), .pointer (some ⟨w.heap.size + 3, 0, none⟩)]) rfl trivial (enters_of Try.func120 (by kernel_rfl) rfl) (encs := encTaken) (Kp := KpM w.heap.size (cutMine w)) (St := fun X Y => X.grownBy Y (some (w.heap.size + 3))) (S := fun xs => xs = takenL l N0) (CutJ w) 2000002
    (fun l' J W hb hJ hJI hY hJ0 => taken1_in Fence.wide 4 trivial rfl (by decide) l' (w.heap.size + 2) (w.heap.size + 3) A c l N0 w hA hm hN (cutMine w) J hJ
      (fun s X k hs hk => by obtain ⟨v1, v2, h⟩ := hJI s X hs; obtain ⟨a1, a2, a3, a4, _⟩ := h.mine hk; exact ⟨a1, a2, a3, a4⟩)
      (fun s X Y k hs hg hk => by
        obtain ⟨v1, v2, h⟩ := hJI s X hs
        have hsx := h.size
        exact (cutMine_same (hg.block _ (by omega) (fun e => by have := Option.some.inj e; omega)) (hg.block _ (by omega) (fun e => by have := Option.some.inj e; omega))).1 hk)
      hY W (fun k hk => (hb.block k (by omega)).trans (hB0.block k hk)) (Nat.le_trans hB0.size hb.size) ((hb.block _ (by omega)).trans g2) ((hb.block _ (by omega)).trans g3) (by omega) (by omega) hJ0)
    (fun X Y hg => KeepsFrom.of_grownBy hg (fun j e => by cases e; omega))
    (fun h1 h2 => h1.trans h2)
    (fun W l' o o' hl ho hc => ⟨by simp, fun k ob hk hcc hmm => (World.putObj_heap_other (fun e => by
        subst e
        rw [ho] at hk; cases hk
        rcases hcc with h | h
        · rw [hc] at h; cases h
        · omega)).trans hk, fun k hk hmm => (cutMine_same (World.putObj_heap_other (by omega)) (World.putObj_heap_other (by omega))).1 hmm⟩)
    (fun _ => rfl)
    (fun s X Y row hs hg hr => hs.grown hg (fun r e => .inr ⟨by have := (hr r e).1; omega, (hr r e).2⟩))
    (fun s X Y hs hg => hs.grown hg (fun r e => by cases e; exact .inl rfl))
    hI0
    (fun pre x a' W => CutJ w pre W ∧ ∃ bp, W.heap[bp]? = some (.cells #[.int .i64 x.2.plot, .int .i64 x.2.loads] 91 (0, 0)) ∧ a' = { tmps := #[.slice A l.length c, .int .i64 N0, undef, undef, .pointer (some ⟨w.heap.size, 0, none⟩), .pointer (some ⟨w.heap.size + 1, 0, none⟩), .bool x.1, .pointer (some ⟨bp, 0, none⟩), .slice A l.length c, .int .i64 N0, .func (.func 120) #[] #[.pointer (some ⟨w.heap.size + 2, 0, none⟩), .pointer (some ⟨w.heap.size + 3, 0, none⟩)], .bool x.1, .agg #[.int .i64 x.2.plot, .int .i64 x.2.loads], undef, undef, undef, undef, undef, undef, undef, undef, undef, undef, undef], defers := [] })
    (fun x a' s X Y row hs hg hr => ⟨hs.1.grown hg (fun r e => .inr ⟨by have := (hr r e).1; omega, (hr r e).2⟩), by
      obtain ⟨bp, hbp, ha⟩ := hs.2
      exact ⟨bp, (grownBy_keeps_cells hg (fun r e => (hr r e).2) hbp rfl).trans hbp, ha⟩⟩)
    ?assign ?body ?done
  case assign =>
    intro l' pre x W K hi hK
    dsimp only [encTaken]
    gi_wp2
    exact hK _ _ ((KeepsOthers.alloc _ _).from _) (hi.kpAlloc _) ⟨hi.grown (World.grownBy_alloc W _ none) (fun r e => by cases e), W.heap.size, heap_new _ _ _ rfl, rfl⟩
  case body =>
    rintro l' pre ⟨is, p⟩ a' W ⟨⟨v1, v2, hi⟩, bp, hbp, rfl⟩ hlen
    have hbl := lt_of_heap hbp
    have k0 : W.cell? ⟨bp, 0, none⟩ = some (.int .i64 p.plot) := cell_of_two hbp
    have k1 : W.cell? ⟨bp, 1, none⟩ = some (.int .i64 p.loads) := by simp [World.cell?, hbp]
    have hz := hi.size
    have z0 : w.heap.size < W.heap.size := by omega
    have z1 : w.heap.size + 1 < W.heap.size := by omega
    have e1 := cell_of_one hi.c1
    have e2 := cell_of_one hi.c2
    have hnews := new_two W p
    cases is with
    | true =>
      have hfl : (firstL pre).length ≤ pre.length := by unfold firstL; rw [List.length_map]; exact List.length_filter_le _ _
      have hm1 : Hid ((firstL pre).length + 1 ≤ maxLen) := by unfold Hid maxLen; omega
      have hm2 : Hid (((firstL pre).length + 1) * 16 ≤ 140737488355328) := by unfold Hid; omega
      have hm3 : Hid (w.heap.size + 4 ≤ (W.alloc (.cells #[.int .i64 p.plot, .int .i64 p.loads] 91)).heap.size) := by unfold Hid; rw [World.size_alloc]; omega
      replace hnews := Lib.hid hnews
      have hi' := Lib.hid hi
      clear hfl hbp hlen
      gi_wp2_with (gi_at_builtin; refine wpIn_app _ rfl (.tmp 14) (.tmp 16) 41 rfl (w.heap.size + 4) 91 2 16 Try.underlying41 info91 rfl (by decide) _ _ _ rfl (PRow.same hi'.out.r1 (fun k e => Below.heap_alloc _ _ _ (hi'.out.r1.lt k e).2)) ⟨W.heap.size, 0, none⟩ 1 1 [.int .i64 p.plot, .int .i64 p.loads] rfl rfl hnews.out (by simp [Value.oneCell']) hm1.out hm2.out hm3.out ?_; intro v1' w1 hown hgrow hnear; obtain ⟨gA, cA, rfl, _, _⟩ := row_succ hown; obtain ⟨q1, q2⟩ := hi'.out.before1 hgrow; have hP := Lib.hid (hi'.out.push1 p hown hgrow hnear); clear hown hgrow hnear)
      exact ⟨by rw [hsz]; exact hP.out.2.2, hP.out.2.1, _, _, hP.out.1⟩
    | false =>
      have hfl : (restL pre).length ≤ pre.length := by unfold restL; rw [List.length_map]; exact List.length_filter_le _ _
      have hm1 : Hid ((restL pre).length + 1 ≤ maxLen) := by unfold Hid maxLen; omega
      have hm2 : Hid (((restL pre).length + 1) * 16 ≤ 140737488355328) := by unfold Hid; omega
      have hm3 : Hid (w.heap.size + 4 ≤ (W.alloc (.cells #[.int .i64 p.plot, .int .i64 p.loads] 91)).heap.size) := by unfold Hid; rw [World.size_alloc]; omega
      replace hnews := Lib.hid hnews
      have hi' := Lib.hid hi
      clear hfl hbp hlen
      gi_wp2_with (gi_at_builtin; refine wpIn_app _ rfl (.tmp 18) (.tmp 20) 41 rfl (w.heap.size + 4) 91 2 16 Try.underlying41 info91 rfl (by decide) _ _ _ rfl (PRow.same hi'.out.r2 (fun k e => Below.heap_alloc _ _ _ (hi'.out.r2.lt k e).2)) ⟨W.heap.size, 0, none⟩ 1 1 [.int .i64 p.plot, .int .i64 p.loads] rfl rfl hnews.out (by simp [Value.oneCell']) hm1.out hm2.out hm3.out ?_; intro v2' w1 hown hgrow hnear; obtain ⟨gA, cA, rfl, _, _⟩ := row_succ hown; obtain ⟨q1, q2⟩ := hi'.out.before2 hgrow; have hP := Lib.hid (hi'.out.push2 p hown hgrow hnear); clear hown hgrow hnear)
      exact ⟨by rw [hsz]; exact hP.out.2.2, hP.out.2.1, _, _, hP.out.1⟩
  case done =>
    rintro D xs W hD rfl ⟨v1, v2, hi⟩ hK
    obtain ⟨A1, k1, rfl⟩ := hi.r1.slice
    obtain ⟨A2, k2, rfl⟩ := hi.r2.slice
    have e1 := cell_of_one hi.c1
    have e2 := cell_of_one hi.c2
    have f1 := free_of_one hi.c1
    have f2 := free_of_one hi.c2
    have hz := hi.size
    have z0 : w.heap.size < W.heap.size := by omega
    have z1 : w.heap.size + 1 < W.heap.size := by omega
    replace hi := Lib.hid hi
    gi_wp2
    gi_region
    gi_wp2
    obtain ⟨Wf, hWf⟩ : ∃ Wf, Wf = ((W.setCell ⟨w.heap.size, 0, none⟩ (.slice A1 (firstL (takenL l N0)).length k1)).setCell ⟨w.heap.size + 1, 0, none⟩ (.slice A2 (restL (takenL l N0)).length k2)).drew := ⟨_, rfl⟩
    have oth : ∀ j, j ≠ w.heap.size → j ≠ w.heap.size + 1 → Wf.heap[j]? = W.heap[j]? := fun j h1 h2 => by
      rw [hWf]
      show (World.setCell _ _ _).heap[j]? = _
      rw [Below.heap_setCell _ _ _ _ (by simpa using h2), Below.heap_setCell _ _ _ _ (by simpa using h1)]
    have F1 : Wf.heap[w.heap.size]? = some (.cells #[.slice A1 (firstL (takenL l N0)).length k1] 41 (0, 0)) := by
      rw [hWf]
      show (World.setCell _ _ _).heap[w.heap.size]? = _
      rw [Below.heap_setCell _ _ _ _ (by simp)]
      simpa using set_cells (o := 0) hi.out.c1 (.slice A1 (firstL (takenL l N0)).length k1)
    have F2 : Wf.heap[w.heap.size + 1]? = some (.cells #[.slice A2 (restL (takenL l N0)).length k2] 41 (0, 0)) := by
      rw [hWf]
      show (World.setCell _ _ _).heap[w.heap.size + 1]? = _
      have hx : (W.setCell ⟨w.heap.size, 0, none⟩ (.slice A1 (firstL (takenL l N0)).length k1)).heap[w.heap.size + 1]? = some (.cells #[.slice A2 (restL (takenL l N0)).length k2] 41 (0, 0)) := (Below.heap_setCell _ _ _ _ (by simp)).trans hi.out.c2
      simpa using set_cells (o := 0) hx (.slice A2 (restL (takenL l N0)).length k2)
    have FB : Below w.heap.size w Wf := by
      rw [hWf]
      exact ((hi.out.below.setCell (p := ⟨w.heap.size, 0, none⟩) (Nat.le_refl _) _).setCell (p := ⟨w.heap.size + 1, 0, none⟩) (by show w.heap.size ≤ w.heap.size + 1; omega) _).drew
    have FD : Wf.heap[D]? = some (.deferred (some [])) := (oth D (by omega) (by omega)).trans hK
    have R1 := hi.out.r1.same (w1 := Wf) fun k e => oth k (by have := hi.out.r1.lt k e; omega) (by have := hi.out.r1.lt k e; omega)
    have R2 := hi.out.r2.same (w1 := Wf) fun k e => oth k (by have := hi.out.r2.lt k e; omega) (by have := hi.out.r2.lt k e; omega)
    rw [← hWf]
    have hl1 := takenL_len l N0
    have hl2 : (firstL (takenL l N0)).length ≤ (takenL l N0).length := by unfold firstL; rw [List.length_map]; exact List.length_filter_le _ _
    have hl3 : (restL (takenL l N0)).length ≤ (takenL l N0).length := by unfold restL; rw [List.length_map]; exact List.length_filter_le _ _
    have hml := hm.1
    obtain ⟨A1', k1', e1', H1⟩ := R1.reads (by omega)
    obtain ⟨A2', k2', e2', H2⟩ := R2.reads (by omega)
    cases e1'
    cases e2'
    have PB : Below w.heap.size Wf (Wf.putObj D (.deferred none)) := ⟨rfl, rfl, rfl, by simp, fun k hk => World.putObj_heap_other (by have := hB0.size; omega)⟩
    have P1 : RdParts (Wf.putObj D (.deferred none)) A1 (cutF l N0) := H1.put FD
    have P2 : RdParts (Wf.putObj D (.deferred none)) A2 (cutR l N0) := H2.put FD
    have c1 : (Wf.putObj D (.deferred none)).cell? ⟨w.heap.size, 0, none⟩ = some (.slice A1 (firstL (takenL l N0)).length k1) := cell_of_one ((World.putObj_heap_other (by omega)).trans F1)
    have c2 : (Wf.putObj D (.deferred none)).cell? ⟨w.heap.size + 1, 0, none⟩ = some (.slice A2 (restL (takenL l N0)).length k2) := cell_of_one ((World.putObj_heap_other (by omega)).trans F2)
    refine ⟨by simp, .inl ⟨_, _, rfl, run_takeDeferred FD, ?_⟩⟩
    refine ⟨.tuple #[.slice A1 (firstL (takenL l N0)).length k1, .slice A2 (restL (takenL l N0)).length k2], by simp [results, Try.results69, go_sem, c1, c2], A1, k1, A2, k2, rfl, P1, P2, FB.trans PB, fun k e => by have := (R1.lt k (by cases A1 <;> simpa [Value.ownBlock] using e)).1; omega, fun k e => by have := (R2.lt k (by cases A2 <;> simpa [Value.ownBlock] using e)).1; omega⟩

/-- What cutting parts leaves: what is taken, and the rest. -/
def CutOut (l : List Portion) (N0 : Int) (w : World) (e : Ending) (w' : World) : Prop := ∃ A1 c1 A2 c2, e = .returned (.tuple #[.slice A1 (cutF l N0).length c1, .slice A2 (cutR l N0).length c2]) ∧ RdParts w' A1 (cutF l N0) ∧ RdParts w' A2 (cutR l N0) ∧ Below w.heap.size w w'
/-- The same, with where they lie: in blocks that are new. -/
def CutOutF (l : List Portion) (N0 : Int) (w : World) (e : Ending) (w' : World) : Prop := ∃ A1 c1 A2 c2, e = .returned (.tuple #[.slice A1 (cutF l N0).length c1, .slice A2 (cutR l N0).length c2]) ∧ RdParts w' A1 (cutF l N0) ∧ RdParts w' A2 (cutR l N0) ∧ Below w.heap.size w w' ∧ (∀ k, A1.map (·.block) = some k → w.heap.size ≤ k) ∧ (∀ k, A2.map (·.block) = some k → w.heap.size ≤ k)
theorem CutOutF.plain {l : List Portion} {N0 : Int} {w w' : World} {e : Ending} (h : CutOutF l N0 w e w') : CutOut l N0 w e w' := by
  obtain ⟨A1, c1, A2, c2, h1, h2, h3, h4, _⟩ := h
  exact ⟨A1, c1, A2, c2, h1, h2, h3, h4⟩
theorem cut_fresh (A : Option Addr) (c : Nat) (l : List Portion) (N0 : Int) (w : World) (hA : RdParts w A l) (hm : Mild l) (hN : 0 ≤ N0 ∧ N0 ≤ 1000000000000) :
    Calls Try.prog 69 #[.slice A l.length c, .int .i64 N0] w (CutOutF l N0 w) := (callsIn_wide (n := 5)).1 (cut_in A c l N0 w hA hm hN)
theorem cut_any (A : Option Addr) (c : Nat) (l : List Portion) (N0 : Int) (w : World) (hA : RdParts w A l) (hm : Mild l) (hN : 0 ≤ N0 ∧ N0 ≤ 1000000000000) :
    Calls Try.prog 69 #[.slice A l.length c, .int .i64 N0] w (CutOut l N0 w) := (cut_fresh A c l N0 w hA hm hN).mono fun _ _ h => h.plain
end Go.Proofs.Ytpgkhlpepckfgaa
