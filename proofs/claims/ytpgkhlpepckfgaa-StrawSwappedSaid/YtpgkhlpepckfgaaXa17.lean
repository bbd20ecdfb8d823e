/-
  Plain facts of a store's check: what all fields have together is what all parts have. What straw.CheckStore and Ledger keep in memory as they go on. straw.CheckStore, walked. The number of the heap with a name: walked, both. What a chore does to a store: plain. Two stores that are one but for where their lists lie: what is asked of them and what is done to them is the same. No program is walked here. Chores compared.
-/
import Derived.Test.YtpgkhlpepckfgaaXa04
import Derived.Test.YtpgkhlpepckfgaaXa05
import Derived.Test.YtpgkhlpepckfgaaXa10
import Derived.Test.YtpgkhlpepckfgaaXa11
import Derived.Test.YtpgkhlpepckfgaaXa16
import Derived.Deep.OwnRows
set_option linter.all false
set_option linter.unusedVariables false
set_option linter.unusedSimpArgs false
section
namespace Go.Proofs.Ytpgkhlpepckfgaa
open Go.RowKit Go.Lib

def sumN (f : Nat → Int) : Nat → Int
  | 0 => 0
  | n + 1 => sumN f n + f n
theorem sumN_add (f g : Nat → Int) : ∀ n, sumN (fun i => f i + g i) n = sumN f n + sumN g n
  | 0 => rfl
  | n + 1 => by simp only [sumN]; rw [sumN_add f g n]; omega
theorem sumN_zero : ∀ n, sumN (fun _ => 0) n = 0
  | 0 => rfl
  | n + 1 => by simp only [sumN]; rw [sumN_zero n]; rfl
theorem sumN_none {f : Nat → Int} : ∀ {n : Nat}, (∀ i, i < n → f i = 0) → sumN f n = 0
  | 0, _ => rfl
  | n + 1, h => by simp only [sumN]; rw [sumN_none (fun i hi => h i (by omega)), h n (by omega)]; rfl
theorem sumN_one (x : Int) (p : Nat) : ∀ n, p < n → sumN (fun i => if (p : Int) = (i : Int) then x else 0) n = x
  | 0, h => by omega
  | n + 1, h => by
    simp only [sumN]
    by_cases hp : p = n
    · subst hp
      rw [sumN_none (fun i hi => if_neg (by omega)), if_pos rfl]; omega
    · rw [sumN_one x p n (by omega), if_neg (by omega)]; omega
theorem sumN_mono {f g : Nat → Int} : ∀ n, (∀ i, i < n → f i = g i) → sumN f n = sumN g n
  | 0, _ => rfl
  | n + 1, h => by simp only [sumN]; rw [sumN_mono n (fun i hi => h i (by omega)), h n (by omega)]
theorem sumN_bounds {f : Nat → Int} {B : Int} (h : ∀ i, 0 ≤ f i ∧ f i ≤ B) : ∀ n : Nat, 0 ≤ sumN f n ∧ sumN f n ≤ B * n
  | 0 => by simp [sumN]
  | n + 1 => by
    have := sumN_bounds h n
    have := h n
    have e : B * ((n + 1 : Nat) : Int) = B * n + B := by rw [Int.natCast_add, Int.mul_add]; simp
    simp only [sumN]
    rw [e]; omega
theorem sumN_of (n : Nat) : ∀ (l : List Portion), (∀ p ∈ l, 0 ≤ p.plot ∧ p.plot < (n : Int)) → sumN (fun i => ofL l i) n = sumL l
  | [], _ => by simp only [ofL, sumL, List.map_nil, List.sum_nil]; exact sumN_zero n
  | p :: l, h => by
    obtain ⟨h0, h1⟩ := h p (by simp)
    obtain ⟨m, hm⟩ : ∃ m : Nat, p.plot = (m : Int) := ⟨p.plot.toNat, by omega⟩
    have e : (fun i : Nat => ofL (p :: l) i) = fun i : Nat => (if (m : Int) = (i : Int) then p.loads else 0) + ofL l i := by
      funext i; simp only [ofL, List.map_cons, List.sum_cons, hm]
    rw [e, sumN_add, sumN_one _ _ _ (by omega), sumN_of n l (fun q hq => h q (by simp [hq]))]
    simp [sumL]
theorem sumN_left (n : Nat) : ∀ (l : List Heap), (∀ h ∈ l, ∀ p ∈ h.parts, 0 ≤ p.plot ∧ p.plot < (n : Int)) → sumN (fun i => leftL l i) n = heapsL l
  | [], _ => by simp only [leftL, heapsL, List.map_nil, List.sum_nil]; exact sumN_zero n
  | x :: l, h => by
    have e : (fun i : Nat => leftL (x :: l) i) = fun i : Nat => ofL x.parts i + leftL l i := by funext i; simp only [leftL, List.map_cons, List.sum_cons]
    rw [e, sumN_add, sumN_of n _ (h x (by simp)), sumN_left n l (fun y hy => h y (by simp [hy]))]
    simp [heapsL]
theorem proper_in {n : Nat} {l : List Portion} (h : properB n l = true) : ∀ p ∈ l, 0 ≤ p.plot ∧ p.plot < (n : Int) := fun p hp => by
  obtain ⟨y, hy, rfl⟩ := List.mem_iff_getElem.1 hp
  have hpy := allB_get h hy
  rw [partAt_get hy] at hpy
  simp only [Bool.and_eq_true, inB, decide_eq_true_eq] at hpy
  omega
theorem proper_mild {n : Nat} {l : List Portion} (h : properB n l = true) (hl : l.length ≤ 1000000) : Mild l := ⟨hl, fun p hp => by
  obtain ⟨y, hy, rfl⟩ := List.mem_iff_getElem.1 hp
  have hpy := allB_get h hy
  rw [partAt_get hy] at hpy
  simp only [Bool.and_eq_true, inB, decide_eq_true_eq] at hpy
  omega⟩
theorem heapB_proper {pl : List Plot} {h : Heap} (hh : heapB pl h = true) : properB pl.length h.parts = true := by
  rw [heapB_eq] at hh
  simp only [Bool.and_eq_true, heapHead] at hh
  exact hh.1.1.1.2

/-- What the field at i has, in all. -/
def fieldSum (s : Store) (i : Nat) : Int := ofL s.used i + ofL s.waste i + leftL s.heaps i
theorem fieldSum_total {pl : List Plot} {s : Store} (h1 : properB pl.length s.used = true) (h2 : properB pl.length s.waste = true) (h3 : ∀ j, j < s.heaps.length → heapAt pl s.heaps j = true) : sumN (fieldSum s) pl.length = totalS s := by
  have e : fieldSum s = fun i : Nat => (fun i : Nat => (fun i : Nat => ofL s.used i) i + (fun i : Nat => ofL s.waste i) i) i + (fun i : Nat => leftL s.heaps i) i := rfl
  rw [e, sumN_add, sumN_add, sumN_of _ _ (proper_in h1), sumN_of _ _ (proper_in h2), sumN_left]
  · rfl
  · intro h hh p hp
    obtain ⟨y, hy, rfl⟩ := List.mem_iff_getElem.1 hh
    have := h3 y hy
    unfold heapAt at this
    rw [getD_lt _ hy, Bool.and_eq_true] at this
    exact proper_in (heapB_proper this.2) p hp

/-- The first tests of a store. -/
def storeHead (pl : List Plot) (s : Store) : Bool := inB s.year 0 100 && decide (s.last.length = pl.length) && decide (s.given.length = pl.length) && decide (s.heaps.length ≤ 16) && properB pl.length s.used && properB pl.length s.waste
theorem storeB_eq (pl : List Plot) (s : Store) : storeB pl s = (storeHead pl s && allB (heapAt pl s.heaps) s.heaps.length && decide (totalS s ≤ 100000) && allB (fieldAt s) pl.length) := rfl
theorem checkS_bad {pl : List Plot} {dry : Int} {s : Store} (h : checkI pl dry ≠ 0) : checkS pl dry s = checkI pl dry := by unfold checkS; rw [if_pos h]
theorem checkS_not {pl : List Plot} {dry : Int} {s : Store} (h : checkI pl dry = 0) (h2 : storeB pl s = false) : checkS pl dry s = 8 := by unfold checkS; rw [h, if_neg (by decide), h2]; rfl
theorem checkS_ok {pl : List Plot} {dry : Int} {s : Store} (h : checkI pl dry = 0) (h2 : storeB pl s = true) : checkS pl dry s = 0 := by unfold checkS; rw [h, if_neg (by decide), h2]; rfl

/-- Heaps' names as fields' names. -/
def asPlots (l : List Heap) : List Plot := l.map fun h => { (default : Plot) with name := h.name }
theorem asPlots_len (l : List Heap) : (asPlots l).length = l.length := by simp [asPlots]
theorem asPlots_name {l : List Heap} {k : Nat} (h : k < l.length) : ((asPlots l)[k]'(by rw [asPlots_len]; exact h)).name = l[k].name := by simp [asPlots]
def knownH (l : List Heap) (k : Nat) : Value → Option Value := knownM (asPlots l) k
def hasH (l : List Heap) (k : Nat) (s : ByteArray) : Bool := hasName (asPlots l) k s
theorem knownH_get (l : List Heap) (k : Nat) (s : ByteArray) : (knownH l k (.string s)).getD (.bool false) = .bool (hasH l k s) := knownM_get _ k s
theorem knownH_zero (l : List Heap) : knownH l 0 = fun _ => none := knownM_zero _
theorem knownH_put (l : List Heap) (k : Nat) (h : k < l.length) : knownH l (k + 1) (.string l[k].name) = some (.bool true) := by
  have := knownM_put (asPlots l) k (by rw [asPlots_len]; exact h)
  rw [asPlots_name h] at this; exact this
theorem knownH_other (l : List Heap) (k : Nat) (h : k < l.length) (x : Value) (hx : x ≠ .string l[k].name) : knownH l (k + 1) x = knownH l k x :=
  knownM_other (asPlots l) k (by rw [asPlots_len]; exact h) x (by rw [asPlots_name h]; exact hx)
theorem hasH_new {l : List Heap} {k : Nat} (h : k < l.length) : heapNew l k = !hasH l k l[k].name := by
  unfold heapNew hasH hasName asPlots
  rw [getD_lt _ h, ← List.map_take, List.any_map, List.not_any_eq_all_not]
  congr 1; funext x; simp
theorem heapAt_eq {pl : List Plot} {l : List Heap} {k : Nat} (h : k < l.length) : heapAt pl l k = (!hasH l k l[k].name && heapB pl l[k]) := by
  unfold heapAt; rw [hasH_new h, getD_lt _ h]

theorem made_cnt (n : Nat) : madeCells #[.int .i64 0] n = cntRow n (fun _ => 0) := by
  apply Array.toList_inj.1
  rw [toList_madeCells_one]
  unfold cntRow
  apply List.ext_getElem?
  intro j
  by_cases hj : j < n
  · simp [hj]
  · simp [hj]
end Go.Proofs.Ytpgkhlpepckfgaa
end
section
namespace Go.Proofs.Ytpgkhlpepckfgaa
open Go.RowKit Go.Lib

/-- From world w on: the farm and the store in their variables, a row of counts. -/
structure CS0 (w : World) (A : Option Addr) (c : Nat) (pl : List Plot) (dry : Int) (s : Store) (g : Nat) (f : Nat → Int) (wr : World) : Prop where
  below : Below w.heap.size w wr
  farm : wr.heap[w.heap.size]? = some (.cells #[.slice A pl.length c, .int .i64 dry] 24 (0, 0))
  store : wr.heap[w.heap.size + 1]? = some (.cells (storeCells s) 43 (0, 0))
  row : wr.heap[g]? = some (.cells (cntRow pl.length f) 3 (0, 0))
  hg : w.heap.size + 2 ≤ g
  size : g < wr.heap.size
/-- And a map of names. -/
structure CS (w : World) (A : Option Addr) (c : Nat) (pl : List Plot) (dry : Int) (s : Store) (g M k : Nat) (f : Nat → Int) (wr : World) : Prop extends CS0 w A c pl dry s g f wr where
  map : MapIs wr Try.prog 9 M k (knownH s.heaps k)
  hM : g < M
section
variable {w : World} {A : Option Addr} {c : Nat} {pl : List Plot} {dry : Int} {s : Store} {g M k : Nat} {f : Nat → Int} {wr wx : World}
theorem CS0.later (h : CS0 w A c pl dry s g f wr) (hb : Below wr.heap.size wr wx) : CS0 w A c pl dry s g f wx := by
  have := h.size; have := h.hg
  exact ⟨h.below.trans (hb.mono h.below.size), (hb.block _ (by omega)).trans h.farm, (hb.block _ (by omega)).trans h.store, (hb.block _ (by omega)).trans h.row, h.hg, Nat.lt_of_lt_of_le h.size hb.size⟩
theorem CS0.ext {f' : Nat → Int} (h : CS0 w A c pl dry s g f wr) (e : ∀ i, f i = f' i) : CS0 w A c pl dry s g f' wr := by
  obtain rfl : f = f' := funext e
  exact h
theorem CS.later (h : CS w A c pl dry s g M k f wr) (hb : Below wr.heap.size wr wx) : CS w A c pl dry s g M k f wx :=
  ⟨h.toCS0.later hb, h.map.below hb h.map.lt, h.hM⟩
theorem CS.ext {f' : Nat → Int} (h : CS w A c pl dry s g M k f wr) (e : ∀ i, f i = f' i) : CS w A c pl dry s g M k f' wr := ⟨h.toCS0.ext e, h.map, h.hM⟩
theorem CS.put (h : CS w A c pl dry s g M k f wr) (hm : MapIs wx Try.prog 9 M (k + 1) (knownH s.heaps (k + 1))) (hg2 : wr.grownBy wx (some M)) : CS w A c pl dry s g M (k + 1) f wx := by
  have := h.map.lt; have := h.hg; have := h.hM; have := h.size
  have hs := hg2.size
  exact ⟨⟨h.below.grown hg2 h.below.size (fun j e => by cases e; omega), (hg2.block _ (by omega) (fun e => by cases e; omega)).trans h.farm, (hg2.block _ (by omega) (fun e => by cases e; omega)).trans h.store, (hg2.block _ (by omega) (fun e => by cases e; omega)).trans h.row, h.hg, by omega⟩, hm, h.hM⟩
theorem CS0.cells (h : CS0 w A c pl dry s g f wr) : wr.cell? ⟨w.heap.size, 0, none⟩ = some (.slice A pl.length c) ∧ wr.cell? ⟨w.heap.size, 1, none⟩ = some (.int .i64 dry) := by
  constructor <;> simp [World.cell?, h.farm]
/-- The counts, one list more. -/
theorem CS0.count_any (h : CS0 w A c pl dry s g f wr) (B : Option Addr) (cb : Nat) (l : List Portion) (hl : RdParts w B l) (hm : Mild l) (hin : ∀ p ∈ l, 0 ≤ p.plot ∧ p.plot < (pl.length : Int)) (hf : ∀ i, 0 ≤ f i ∧ f i ≤ 1000000000000000) (hn : pl.length ≤ 1000000) :
    Calls Try.prog 61 #[.slice (some ⟨g, 0, none⟩) pl.length pl.length, .slice B l.length cb] wr fun e w' => e = .returned (.tuple #[]) ∧ CS0 w A c pl dry s g (fun i => f i + ofL l i) w' ∧ ∀ k, k < wr.heap.size → k ≠ g → w'.heap[k]? = wr.heap[k]? := by
  have := h.size; have := h.hg
  refine (Ytpgkhlpepckfgaa.count_any w wr g pl.length pl.length f B cb l hl h.below (by omega) h.size h.row hm hf hin hn (Nat.le_refl _)).mono ?_
  rintro e w' ⟨rfl, h1, h2, h3, h4⟩
  exact ⟨rfl, ⟨h2, (h4 _ (by omega) (by omega)).trans h.farm, (h4 _ (by omega) (by omega)).trans h.store, h1, h.hg, Nat.lt_of_lt_of_le h.size h3⟩, h4⟩
theorem CS.count_any (h : CS w A c pl dry s g M k f wr) (B : Option Addr) (cb : Nat) (l : List Portion) (hl : RdParts w B l) (hm : Mild l) (hin : ∀ p ∈ l, 0 ≤ p.plot ∧ p.plot < (pl.length : Int)) (hf : ∀ i, 0 ≤ f i ∧ f i ≤ 1000000000000000) (hn : pl.length ≤ 1000000) :
    Calls Try.prog 61 #[.slice (some ⟨g, 0, none⟩) pl.length pl.length, .slice B l.length cb] wr fun e w' => e = .returned (.tuple #[]) ∧ CS w A c pl dry s g M k (fun i => f i + ofL l i) w' := by
  refine (h.toCS0.count_any B cb l hl hm hin hf hn).mono ?_
  rintro e w' ⟨rfl, h1, h2⟩
  have := h.hM
  exact ⟨rfl, h1, h.map.same (h2 _ h.map.lt (by omega)), h.hM⟩
end

theorem CS0.made {w w3 : World} {A : Option Addr} {c : Nat} {pl : List Plot} {dry : Int} {s : Store} (hB : Below w.heap.size w w3) (hf : w3.heap[w.heap.size]? = some (.cells #[.slice A pl.length c, .int .i64 dry] 24 (0, 0))) (hs : w3.heap[w.heap.size + 1]? = some (.cells (storeCells s) 43 (0, 0))) (hz : w.heap.size + 2 ≤ w3.heap.size) :
    CS0 w A c pl dry s w3.heap.size (fun _ => 0) (w3.alloc (.cells (cntRow pl.length fun _ => 0) 3)) :=
  ⟨hB.alloc hB.size _, heap_old _ _ _ _ hf, heap_old _ _ _ _ hs, heap_new _ _ _ rfl, hz, by simp⟩
theorem CS0.mapped {w w5 : World} {A : Option Addr} {c : Nat} {pl : List Plot} {dry : Int} {s : Store} {g : Nat} {f : Nat → Int} (h : CS0 w A c pl dry s g f w5) : CS w A c pl dry s g w5.heap.size 0 f (w5.alloc (.map #[] 0)) :=
  ⟨h.later ((Below.refl _ _).alloc (Nat.le_refl _) _), by rw [knownH_zero]; exact MapIs.made _ _ _, h.size⟩

theorem make_cnt (n : Nat) (hn : n ≤ 1000000) (w : World) : (Instr.makeSlice 29 (.int .i64 (n : Int)) (.int .i64 (n : Int))).run Try.prog w = .ok (.slice (some ⟨w.heap.size, 0, none⟩) n n) (w.alloc (.cells (cntRow n fun _ => 0) 3)) := by
  rw [← made_cnt]
  exact run_make_row' 29 3 (.int .i64 0) 8 Try.underlying29 info3 rfl .i64 .i64 n (by omega) (by omega) w
theorem mild_fields {s : Store} {k : Nat} (h1 : Mild s.used) (h2 : Mild s.waste) (h3 : s.heaps.length ≤ 1000) (h4 : ∀ x ∈ s.heaps.take k, Mild x.parts) (i : Nat) : 0 ≤ ofL s.used i + ofL s.waste i + leftL (s.heaps.take k) i ∧ ofL s.used i + ofL s.waste i + leftL (s.heaps.take k) i ≤ 1000000000000000 := by
  have a := h1.of i
  have b := h2.of i
  have d := leftL_bounds i h4
  have e : (s.heaps.take k).length ≤ 1000 := by rw [List.length_take]; omega
  omega
theorem mild_taken {pl : List Plot} {s : Store} {k : Nat} (hk : k ≤ s.heaps.length) (hh : ∀ x ∈ s.heaps, x.parts.length ≤ 1000000) (h : ∀ j, j < k → heapAt pl s.heaps j = true) : ∀ x ∈ s.heaps.take k, Mild x.parts := fun x hx => by
  obtain ⟨j, hj, rfl⟩ := List.mem_iff_getElem.1 hx
  rw [List.length_take] at hj
  rw [List.getElem_take]
  have := h j (by omega)
  rw [heapAt_eq (by omega), Bool.and_eq_true] at this
  exact proper_mild (heapB_proper this.2) (hh _ (List.getElem_mem _))
end Go.Proofs.Ytpgkhlpepckfgaa
end
section
namespace Go.Proofs.Ytpgkhlpepckfgaa
open Go.RowKit Go.Lib Go.Maps Go.WideMaps

set_option maxHeartbeats 2000000 in
set_option maxRecDepth 100000 in
theorem checkStore_any (A : Option Addr) (c : Nat) (pl : List Plot) (dry : Int) (s : Store) (w : World) (h : RdPlots w A pl) (hs : RdStore w s) (hu : s.used.length ≤ 1000000) (hw : s.waste.length ≤ 1000000) (hh : ∀ x ∈ s.heaps, x.parts.length ≤ 1000000) :
    Calls Try.prog 28 #[.agg #[.slice A pl.length c, .int .i64 dry], storeVal s] w fun e w' => e = .returned (.int .i64 (checkS pl dry s)) ∧ Below w.heap.size w w' := by
  have hl1 := h.1.1
  have b1 := hs.last.1
  have b2 := hs.given.1
  have b3 := hs.heaps.1.1
  obtain ⟨W0, hW0⟩ : ∃ W0, W0 = (w.alloc (.cells #[.slice A pl.length c, .int .i64 dry] 24)).alloc (.cells (storeCells s) 43) := ⟨_, rfl⟩
  have hb0 : Hid (Below w.heap.size w W0) := by rw [hW0]; exact ((Below.refl _ w).alloc (Nat.le_refl _) _).alloc (by simp) _
  have g1 : Hid (W0.heap[w.heap.size]? = some (.cells #[.slice A pl.length c, .int .i64 dry] 24 (0, 0))) := by rw [hW0]; exact heap_old _ _ _ _ (heap_new _ _ _ rfl)
  have g2 : Hid (W0.heap[w.heap.size + 1]? = some (.cells (storeCells s) 43 (0, 0))) := by rw [hW0]; exact heap_new _ _ _ (by simp)
  have hz : W0.heap.size = w.heap.size + 2 := by rw [hW0]; simp
  have hz0 : w.heap.size < W0.heap.size := by omega
  have hz1 : w.heap.size + 1 < W0.heap.size := by omega
  replace hz := Lib.hid hz
  have d1 := cell_of_two g1.out
  have d2 : W0.cell? ⟨w.heap.size, 1, none⟩ = some (.int .i64 dry) := by simp [World.cell?, g1.out]
  obtain ⟨k0, k1, k2, k3, k4, k5⟩ := six_cells g2.out
  obtain ⟨ck, hck⟩ : ∃ ck, ck = checkI pl dry := ⟨_, rfl⟩
  have hca := check_any A c pl dry W0 (h.below hb0.out)
  rw [← hck] at hca
  replace hca := Lib.hid hca
  by_cases hc0 : ck = 0
  · subst hc0
    have hlen : pl.length ≤ 12 := by
      exact (checkI_zero hck.symm).1
    have hmk := make_cnt pl.length (by omega)
    have hmm := @run_makeMap Try.prog
    replace hck := Lib.hid hck.symm
    cases q : storeHead pl s with
    | false =>
      have hst := Lib.hid (checkS_not (s := s) hck.out (by rw [storeB_eq, q]; rfl))
      replace q := Lib.hid q
      clear hmk hmm
      go_enter Try.func28, Try.ntmps28
      go_wp2_with fail
      rw [← hW0]
      replace hW0 := Lib.hid hW0
      go_wp2_with (first | (go_at_call 25; refine hca.out.mono ?_; rintro e w1 ⟨rfl, hb1⟩; obtain ⟨r1, s1⟩ := bcell hb1; have y0 := Nat.lt_of_lt_of_le hz0 hb1.size; have y1 := Nat.lt_of_lt_of_le hz1 hb1.size) | (go_at_call 43; refine (in_any _ _ _ _).mono ?_; rintro e w' ⟨rfl, rfl⟩) | (go_at_call 60; first | ((with_reducible refine (proper_any _ _ _ _ pl dry s.waste _ (h.below (hb0.out.trans ((hb1.trans (hb2.mono hb1.size)).mono hb0.out.size))) (hs.waste.below (hb0.out.trans ((hb1.trans (hb2.mono hb1.size)).mono hb0.out.size)))).mono ?_); rintro e w3 ⟨rfl, hb3⟩) | ((with_reducible refine (proper_any _ _ _ _ pl dry s.used _ (h.below (hb0.out.trans (hb1.mono hb0.out.size))) (hs.used.below (hb0.out.trans (hb1.mono hb0.out.size)))).mono ?_); rintro e w2 ⟨rfl, hb2⟩; obtain ⟨r2, s2⟩ := bcell hb2; have y2 := Nat.lt_of_lt_of_le y0 hb2.size; have y3 := Nat.lt_of_lt_of_le y1 hb2.size)))
      all_goals first
        | (exfalso; have q := q.out; simp_all [storeHead]; done)
        | (exfalso; have q := q.out; simp_all [storeHead]; omega)
        | (go_ret; refine ⟨by rw [hst.out]; rfl, ?_⟩; first | exact hb0.out.trans ((hb1.trans ((hb2.trans (hb3.mono hb2.size)).mono hb1.size)).mono hb0.out.size) | exact hb0.out.trans ((hb1.trans (hb2.mono hb1.size)).mono hb0.out.size) | exact hb0.out.trans (hb1.mono hb0.out.size))
    | true =>
      have q' := q
      simp only [storeHead, Bool.and_eq_true, decide_eq_true_eq] at q'
      obtain ⟨⟨⟨⟨⟨t1, t2⟩, t3⟩, t4⟩, t5⟩, t6⟩ := q'
      have e2 : ((s.last.length : Int) != (pl.length : Int)) = false := by rw [t2]; simp
      have e3 : ((s.given.length : Int) != (pl.length : Int)) = false := by rw [t3]; simp
      have e4 : decide (16 < (s.heaps.length : Int)) = false := by simp; omega
      have hbq : storeB pl s = (allB (heapAt pl s.heaps) s.heaps.length && decide (totalS s ≤ 100000) && allB (fieldAt s) pl.length) := by rw [storeB_eq, q, Bool.true_and]
      have i5 := Lib.hid (proper_in t5)
      have i6 := Lib.hid (proper_in t6)
      have m5 := Lib.hid (proper_mild t5 hu)
      have m6 := Lib.hid (proper_mild t6 hw)
      have mf1 : Hid (∀ i : Nat, 0 ≤ (fun _ : Nat => (0 : Int)) i ∧ (fun _ : Nat => (0 : Int)) i ≤ 1000000000000000) := fun i => ⟨Int.le_refl 0, by show (0 : Int) ≤ 1000000000000000; decide⟩
      have mf2 : Hid (∀ i : Nat, 0 ≤ (0 : Int) + ofL s.used i ∧ (0 : Int) + ofL s.used i ≤ 1000000000000000) := fun i => by have := m5.out.of i; omega
      replace q := Lib.hid q
      replace hbq := Lib.hid hbq
      replace t2 := Lib.hid t2
      replace t3 := Lib.hid t3
      obtain ⟨ha, hha⟩ : ∃ x, x = s.ha := ⟨_, rfl⟩
      rw [← hha] at k3
      replace hha := Lib.hid hha
      have hlen6 : Hid (pl.length ≤ 1000000) := by unfold Hid; omega
      go_enter Try.func28, Try.ntmps28
      go_wp2_with fail
      rw [← hW0]
      replace hW0 := Lib.hid hW0
      go_wp2_with (first | (go_at_call 25; refine hca.out.mono ?_; rintro e w1 ⟨rfl, hb1⟩; obtain ⟨r1, s1⟩ := bcell hb1; have y0 := Nat.lt_of_lt_of_le hz0 hb1.size; have y1 := Nat.lt_of_lt_of_le hz1 hb1.size) | (go_at_call 43; refine (in_any _ _ _ _).mono ?_; rintro e w' ⟨rfl, rfl⟩) | (go_at_call 60; first | ((with_reducible refine (proper_any _ _ _ _ pl dry s.waste _ (h.below (hb0.out.trans ((hb1.trans (hb2.mono hb1.size)).mono hb0.out.size))) (hs.waste.below (hb0.out.trans ((hb1.trans (hb2.mono hb1.size)).mono hb0.out.size)))).mono ?_); rintro e w3 ⟨rfl, hb3⟩; obtain ⟨r3, s3⟩ := bcell hb3; have y4 := Nat.lt_of_lt_of_le y2 hb3.size; have y5 := Nat.lt_of_lt_of_le y3 hb3.size; have hC0 := Lib.hid (CS0.made (hb0.out.trans ((hb1.trans ((hb2.trans (hb3.mono hb2.size)).mono hb1.size)).mono hb0.out.size)) (((hb1.trans ((hb2.trans (hb3.mono hb2.size)).mono hb1.size)).block _ hz0).trans g1.out) (((hb1.trans ((hb2.trans (hb3.mono hb2.size)).mono hb1.size)).block _ hz1).trans g2.out) y5)) | ((with_reducible refine (proper_any _ _ _ _ pl dry s.used _ (h.below (hb0.out.trans (hb1.mono hb0.out.size))) (hs.used.below (hb0.out.trans (hb1.mono hb0.out.size)))).mono ?_); rintro e w2 ⟨rfl, hb2⟩; obtain ⟨r2, s2⟩ := bcell hb2; have y2 := Nat.lt_of_lt_of_le y0 hb2.size; have y3 := Nat.lt_of_lt_of_le y1 hb2.size)) | (go_at_call 61; first | ((with_reducible refine (hC1.out.count_any _ _ s.waste hs.waste m6.out i6.out mf2.out hlen6.out).mono ?_); rintro e w5 ⟨rfl, hC2, _⟩; obtain ⟨_, _, _, x3, _, _⟩ := six_cells hC2.store; rw [← hha.out] at x3; have z5 := Nat.lt_of_lt_of_le hC2.hg (Nat.le_of_lt hC2.size); have hC2 := Lib.hid hC2) | ((with_reducible refine (hC0.out.count_any _ _ s.used hs.used m5.out i5.out mf1.out hlen6.out).mono ?_); rintro e w4 ⟨rfl, hC1, _⟩; obtain ⟨_, _, _, _, _, x5⟩ := six_cells hC1.store; have hC1 := Lib.hid hC1)))
      have hCM := Lib.hid (hC2.out.mapped)
      replace t5 := Lib.hid t5
      replace t6 := Lib.hid t6
      clear r1 s1 r2 s2 r3 s3 x3 x5 k0 k1 k2 k3 k4 k5 d1 d2 hC0 hC1 hmk hmm t1
      go_loopw [76] (fun v wr => ∃ k : Nat, v = .int .i64 k ∧ k ≤ s.heaps.length ∧ Hid (∀ j, j < k → heapAt pl s.heaps j = true) ∧ Hid (CS w A c pl dry s w3.heap.size w5.heap.size k (fun i => ofL s.used i + ofL s.waste i + leftL (s.heaps.take k) i) wr)) (fun v _ => s.heaps.length - (intOf v).toNat)
      case atStart => exact ⟨0, rfl, Nat.zero_le _, (fun j hj => absurd hj (Nat.not_lt_zero _)), hCM.out.ext (fun i => by simp [leftL])⟩
      case round =>
        obtain ⟨k, rfl, hk, hall, hC⟩ := hrel
        have hCb := hC.out.below
        have hCb := Lib.hid hCb
        by_cases hlt : k < s.heaps.length
        · obtain ⟨aa, ah, a0, a1, a2, a3, a4, a5, a6⟩ := (FlatRow.below hs.heaps.1 hCb.out).at7 hlt rfl
          obtain ⟨H, hH⟩ : ∃ H, H = s.heaps[k] := ⟨_, rfl⟩
          obtain ⟨hp, hnm⟩ := hs.heaps.2 _ (List.getElem_mem hlt)
          have hpl := hh _ (List.getElem_mem hlt)
          have hA := heapAt_eq (pl := pl) hlt
          have hK1 := knownH_put s.heaps k hlt
          have hK2 := knownH_other s.heaps k hlt
          have hlf : Hid (∀ i : Nat, leftL (s.heaps.take (k + 1)) (i : Int) = leftL (s.heaps.take k) i + ofL s.heaps[k].parts i) := fun i => leftL_take s.heaps i k hlt
          rw [← hH] at a0 a1 a2 a3 a4 a5 a6 hp hnm hpl hA hK1 hK2 hlf
          replace hH := Lib.hid hH
          have ah2 : ha = some aa := hha.out.trans ah
          replace ah := Lib.hid ah
          subst ah2
          have zf : w.heap.size < wr.heap.size := by have := hC.out.hg; have := hC.out.size; omega
          have zs : w.heap.size + 1 < wr.heap.size := by have := hC.out.hg; have := hC.out.size; omega
          obtain ⟨cf0, cf1⟩ := hC.out.toCS0.cells
          have hL := knownH_get s.heaps k H.name
          have hKey := Lib.hid (keyOf_string_mk Try.underlying9 (s := H.name) (Nat.le_trans hnm (by decide)))
          replace hK1 := Lib.hid hK1
          replace hK2 := Lib.hid hK2
          replace hp := Lib.hid hp
          have hba : Hid (Below wr.heap.size wr (wr.alloc (.cells (hcells H) 77))) := (Below.refl _ wr).alloc (Nat.le_refl _) _
          have za : wr.heap.size < (wr.alloc (.cells (hcells H) 77)).heap.size := by simp
          have zfa : w.heap.size < (wr.alloc (.cells (hcells H) 77)).heap.size := by simp; omega
          replace za := Lib.hid za
          cases q1 : hasH s.heaps k H.name with
          | true =>
            rw [q1] at hA hL
            replace hL := Lib.hid hL
            replace hA := Lib.hid hA
            go_wp2_with (at_lookup; refine wp_look _ rfl _ _ 102 rfl 9 4 (string_keyed Try.underlying9) Try.underlying102 (.bool false) (zeroBool _) w5.heap.size k (knownH s.heaps k) rfl (hC.out.map.alloc _) (.string H.name) _ rfl hKey.out _ hL.out ?_)
            go_ret
            exact ⟨by rw [checkS_not hck.out (by rw [hbq.out, allB_stop hlt (by rw [hA.out]; rfl)]; rfl)]; rfl, hCb.out.alloc hCb.out.size _⟩
          | false =>
            rw [q1] at hA hL
            replace hL := Lib.hid hL
            cases q2 : heapB pl H with
            | false =>
              rw [q2] at hA
              replace hA := Lib.hid hA
              replace q2 := Lib.hid q2
              go_wp2_with (first | (at_lookup; refine wp_look _ rfl _ _ 102 rfl 9 4 (string_keyed Try.underlying9) Try.underlying102 (.bool false) (zeroBool _) w5.heap.size k (knownH s.heaps k) rfl (hC.out.map.alloc _) (.string H.name) _ rfl hKey.out _ hL.out ?_) | (go_at_call 62; refine (heaped_any A c pl dry H _ (h.below (hCb.out.alloc hCb.out.size _)) (hp.out.below (hCb.out.alloc hCb.out.size _)) hnm hpl).mono ?_; rintro e w6 ⟨rfl, hb6⟩; rw [q2.out]))
              go_ret
              exact ⟨by rw [checkS_not hck.out (by rw [hbq.out, allB_stop hlt (by rw [hA.out]; rfl)]; rfl)]; rfl, (hCb.out.alloc hCb.out.size _).trans (hb6.mono (hCb.out.alloc hCb.out.size _).size)⟩
            | true =>
              rw [q2] at hA
              replace hA := Lib.hid hA
              replace q2 := Lib.hid q2
              have hmild := Lib.hid (proper_mild (heapB_proper q2.out) hpl)
              have hin := Lib.hid (proper_in (heapB_proper q2.out))
              have hmf : Hid (∀ i : Nat, 0 ≤ ofL s.used i + ofL s.waste i + leftL (s.heaps.take k) i ∧ ofL s.used i + ofL s.waste i + leftL (s.heaps.take k) i ≤ 1000000000000000) := fun i => mild_fields m5.out m6.out (by omega) (mild_taken hk hh hall.out) i
              go_wp2_with (first | (at_lookup; refine wp_look _ rfl _ _ 102 rfl 9 4 (string_keyed Try.underlying9) Try.underlying102 (.bool false) (zeroBool _) w5.heap.size k (knownH s.heaps k) rfl (hC.out.map.alloc _) (.string H.name) _ rfl hKey.out _ hL.out ?_) | (go_at_call 62; refine (heaped_any A c pl dry H _ (h.below (hCb.out.alloc hCb.out.size _)) (hp.out.below (hCb.out.alloc hCb.out.size _)) hnm hpl).mono ?_; rintro e w6 ⟨rfl, hb6⟩; rw [q2.out]; obtain ⟨r6, s6⟩ := bcell hb6; have hC6 := Lib.hid ((hC.out.later hba.out).later hb6); have z6 := Lib.hid (Nat.lt_of_lt_of_le za.out hb6.size)) | (at_mapUpdate; refine wp_store _ rfl _ _ _ 102 (.inl rfl) 9 4 (string_keyed Try.underlying9) Try.underlying102 w5.heap.size k (knownH s.heaps k) rfl hC6.out.map (.string H.name) _ _ rfl rfl hKey.out (knownH s.heaps (k + 1)) hK1.out (fun x _ _ hx => hK2.out x hx) ?_; intro w7 hm7 hg7; have hC7 := Lib.hid (hC6.out.put hm7 hg7); obtain ⟨_, _, _, x7, _, _, _⟩ := seven_cells ((hg7.block _ z6.out (fun e => Nat.lt_irrefl _ (Option.some.inj e ▸ hC.out.map.lt))).trans ((hb6.block _ za.out).trans (heap_new _ _ _ rfl)))) | (go_at_call 61; refine (hC7.out.count_any _ _ H.parts hp.out hmild.out hin.out hmf.out hlen6.out).mono ?_; rintro e w8 ⟨rfl, hC8⟩; have hC8 := Lib.hid hC8))
              refine ⟨⟨k + 1, by go_num, by omega, succ_all hall.out (by rw [hA.out]; rfl), hC8.out.ext (fun i => ?_)⟩, by simp only [intOf]; omega⟩
              show _ = ofL s.used i + ofL s.waste i + leftL (s.heaps.take (k + 1)) i
              rw [hlf.out i, Int.add_assoc]
        · have hke : k = s.heaps.length := by omega
          subst hke
          have hC' := hC.out.ext (f' := fieldSum s) (fun i => by rw [List.take_length]; rfl)
          have hFB := fun i : Nat => mild_fields m5.out m6.out (by omega) (mild_taken hk hh hall.out) i
          rw [List.take_length] at hFB
          have hFS : ∀ i : Nat, 0 ≤ fieldSum s i ∧ fieldSum s i ≤ 1000000000000000 := hFB
          replace hFS := Lib.hid hFS
          have hT : sumN (fieldSum s) pl.length = totalS s := fieldSum_total t5.out t6.out hall.out
          replace hT := Lib.hid hT
          have hC' := Lib.hid hC'.toCS0
          clear hFB hk hlt
          obtain ⟨wo, rfl⟩ : ∃ x, x = wr := ⟨wr, rfl⟩
          go_wp2
          go_loopw [10, 100] (fun a v wx => ∃ j : Nat, v = .int .i64 j ∧ a = .int .i64 (sumN (fieldSum s) j) ∧ j ≤ pl.length ∧ Hid (∀ x, x < j → fieldAt s x = true) ∧ Hid (CS0 w A c pl dry s w3.heap.size (fieldSum s) wx)) (fun _ v _ => pl.length - (intOf v).toNat)
          case atStart => exact ⟨0, rfl, rfl, Nat.zero_le _, (fun j hj => absurd hj (Nat.not_lt_zero _)), hC'⟩
          case round =>
            obtain ⟨j, rfl, rfl, hj, hfa, hCx⟩ := hrel
            have hCb := Lib.hid hCx.out.below
            obtain ⟨sb1, sb2⟩ := sumN_bounds hFS.out j
            by_cases hlt2 : j < pl.length
            · obtain ⟨x0, x1, x2, _, _, _⟩ := six_cells hCx.out.store
              have c1 : wr.cell? ⟨w3.heap.size, j, none⟩ = some (.int .i64 (fieldSum s j)) := cell_cnt hCx.out.row hlt2
              have c2 : wr.cell? ((⟨w3.heap.size, 0, none⟩ : Addr).add j) = some (.int .i64 (fieldSum s j)) := by rw [lit_add]; exact c1
              have hjg : j < s.given.length := by rw [t3.out]; exact hlt2
              have hjl : j < s.last.length := by rw [t2.out]; exact hlt2
              obtain ⟨ag, hag, gg⟩ := (FlatRow.below hs.given hCb.out).at1 hjg rfl
              obtain ⟨al, hal, gl⟩ := (FlatRow.below hs.last hCb.out).at1 hjl rfl
              rw [hag] at x2
              rw [hal] at x1
              have hFa : fieldAt s j = (inB s.last[j] (-1) s.year && decide (s.given[j] = fieldSum s j)) := by
                unfold fieldAt; rw [getD_lt _ hjg, getD_lt _ hjl]
                congr 2
                unfold fieldSum
                rw [eq_iff_iff]; omega
              obtain ⟨fb1, fb2⟩ := hFS.out j
              obtain ⟨fj, hfj⟩ : ∃ fj, fj = fieldSum s j := ⟨_, rfl⟩
              have hsum : sumN (fieldSum s) (j + 1) = sumN (fieldSum s) j + fj := by rw [hfj]; rfl
              obtain ⟨gj, hgj⟩ : ∃ gj, gj = s.given[j] := ⟨_, rfl⟩
              obtain ⟨lj, hlj⟩ : ∃ lj, lj = s.last[j] := ⟨_, rfl⟩
              rw [← hfj] at c1 c2 hFa fb1 fb2
              rw [← hgj] at gg hFa
              rw [← hlj] at gl hFa
              replace hfj := Lib.hid hfj
              replace hgj := Lib.hid hgj
              replace hlj := Lib.hid hlj
              replace hag := Lib.hid hag
              replace hal := Lib.hid hal
              replace hsum := Lib.hid hsum
              have hq : ∀ W, Calls Try.prog 43 #[.int .i64 lj, .int .i64 (-1), .int .i64 s.year] W fun e w' => e = .returned (.bool (inB lj (-1) s.year)) ∧ w' = W := fun W => (in_any _ _ _ _).mono fun _ _ ⟨a, b⟩ => ⟨a, b.symm⟩
              by_cases hgf : gj = fj
              · have bb : (gj != fj) = false := by rw [hgf]; simp
                cases hin : inB lj (-1) s.year with
                | false =>
                  rw [hin] at hq hFa
                  replace hFa := Lib.hid hFa
                  replace hgf := Lib.hid hgf
                  go_wp2
                  go_big_quiet ((go_at_call 43; exact Calls.quiet_of_same (hq _)))
                  go_wp2
                  go_ret
                  exact ⟨by rw [checkS_not hck.out (by rw [hbq.out, allB_stop hlt2 (by rw [hFa.out, Bool.false_and]), Bool.and_false])]; rfl, hCb.out.trans (below_drewN_ _ _)⟩
                | true =>
                  rw [hin] at hq hFa
                  replace hFa := Lib.hid hFa
                  replace hgf := Lib.hid hgf
                  go_wp2
                  go_big_quiet ((go_at_call 43; exact Calls.quiet_of_same (hq _)))
                  go_wp2
                  exact ⟨⟨j + 1, by go_num, by rw [hsum.out], by omega, succ_all hfa.out (by rw [hFa.out, decide_eq_true hgf.out]; rfl), hCx.out.later (below_drewN_ _ _)⟩, by simp only [intOf]; omega⟩
              · have bb : (gj != fj) = true := bne_iff_ne.2 hgf
                replace hgf := Lib.hid hgf
                replace hFa := Lib.hid hFa
                go_wp2
                go_big_quiet (fail)
                go_wp2
                go_ret
                exact ⟨by rw [checkS_not hck.out (by rw [hbq.out, allB_stop hlt2 (by rw [hFa.out, decide_eq_false hgf.out, Bool.and_false]), Bool.and_false])]; rfl, hCb.out.trans (below_drewN_ _ _)⟩
            · have hje : j = pl.length := by omega
              subst hje
              by_cases htt : totalS s ≤ 100000
              · have ht2 : sumN (fieldSum s) pl.length ≤ 100000 := by rw [hT.out]; exact htt
                replace htt := Lib.hid htt
                go_wp2
                go_ret
                exact ⟨by rw [checkS_ok hck.out (by rw [hbq.out, allB_end hall.out, decide_eq_true htt.out, allB_end hfa.out]; rfl)]; rfl, hCb.out⟩
              · have ht2 : 100000 < sumN (fieldSum s) pl.length := by rw [hT.out]; omega
                replace htt := Lib.hid htt
                go_wp2
                go_ret
                exact ⟨by rw [checkS_not hck.out (by rw [hbq.out, decide_eq_false (by have := htt.out; omega), Bool.and_false, Bool.false_and])]; rfl, hCb.out⟩
  · have hcb : (ck != 0) = true := bne_iff_ne.2 hc0
    have hst : Hid (checkS pl dry s = ck) := by unfold Hid; rw [hck]; exact checkS_bad (hck ▸ hc0)
    replace hck := Lib.hid hck
    clear hc0
    go_enter Try.func28, Try.ntmps28
    go_wp2_with fail
    rw [← hW0]
    replace hW0 := Lib.hid hW0
    go_wp2_with (go_at_call 25; refine hca.out.mono ?_; rintro e w1 ⟨rfl, hb1⟩)
    go_ret
    exact ⟨by rw [hst.out]; rfl, hb0.out.trans (hb1.mono hb0.out.size)⟩
end Go.Proofs.Ytpgkhlpepckfgaa
end
section
namespace Go.Proofs.Ytpgkhlpepckfgaa
open Go.RowKit Go.Lib

/-- The first heap with a name; -1: there is none. -/
def nameIdx (nm : ByteArray) (l : List Heap) : Int := if l.any (fun h => decide (h.name = nm)) then l.findIdx (fun h => decide (h.name = nm)) else -1
theorem nameIdx_end {nm : ByteArray} {l : List Heap} (h : ∀ j (hj : j < l.length), l[j].name ≠ nm) : nameIdx nm l = -1 := by
  have : l.any (fun h => decide (h.name = nm)) = false := by
    refine Bool.eq_false_iff.2 fun e => ?_
    obtain ⟨x, hx, hq⟩ := List.any_eq_true.1 e
    obtain ⟨j, hj, rfl⟩ := List.mem_iff_getElem.1 hx
    exact h j hj (of_decide_eq_true hq)
  unfold nameIdx; rw [this]; rfl
theorem nameIdx_stop {nm : ByteArray} {l : List Heap} {k : Nat} (hk : k < l.length) (h : ∀ j (hj : j < l.length), j < k → l[j].name ≠ nm) (hq : l[k].name = nm) : nameIdx nm l = k := by
  have e1 : l.any (fun h => decide (h.name = nm)) = true := List.any_eq_true.2 ⟨l[k], List.getElem_mem hk, decide_eq_true hq⟩
  unfold nameIdx
  rw [e1, if_pos rfl]
  have : l.findIdx (fun h => decide (h.name = nm)) = k := (List.findIdx_eq hk).2 ⟨decide_eq_true hq, fun j hj => decide_eq_false (h j (by omega) hj)⟩
  rw [this]
theorem nameIdx_range (nm : ByteArray) (l : List Heap) : -1 ≤ nameIdx nm l ∧ nameIdx nm l < l.length := by
  unfold nameIdx
  split
  · rename_i h
    have : l.findIdx (fun h => decide (h.name = nm)) < l.length := List.findIdx_lt_length.2 (by obtain ⟨x, hx, hq⟩ := List.any_eq_true.1 h; exact ⟨x, hx, hq⟩)
    omega
  · omega

set_option maxHeartbeats 1000000 in
set_option maxRecDepth 100000 in
theorem nameIs_any (H : Heap) (nm : ByteArray) (b : Nat) (w : World) (hb : w.cell? ⟨b, 0, none⟩ = some (.string nm)) (hbl : b < w.heap.size) :
    Calls Try.prog 67 #[.agg (hcells H), ptr b] w fun e w' => e = .returned (.bool (H.name.toList == nm.toList)) ∧ Below w.heap.size w w' := by
  go_enter Try.func67, Try.ntmps67
  go_wp2
  go_ret
  exact ⟨rfl, (Below.refl _ w).alloc (Nat.le_refl _) _⟩

set_option maxHeartbeats 1000000 in
set_option maxRecDepth 100000 in
theorem indexH_any (B : Option Addr) (cb : Nat) (l : List Heap) (nm : ByteArray) (b : Nat) (w : World) (hb : w.cell? ⟨b, 0, none⟩ = some (.string nm)) (hl : RdHeaps w B l) :
    Calls Try.prog 66 #[.slice B l.length cb, .func (.func 67) #[] #[ptr b]] w fun e w' => e = .returned (.int .i64 (nameIdx nm l)) ∧ Below w.heap.size w w' := by
  have hll := hl.1.1
  have hbl : Hid (b < w.heap.size) := World.block_lt_of_cell? w _ hb
  replace hb := Lib.hid hb
  go_enter Try.func66, Try.ntmps66
  go_wp2
  go_loopw [8] (fun i wr => ∃ k : Nat, i = .int .i64 k ∧ k ≤ l.length ∧ Hid (∀ j (hj : j < l.length), j < k → l[j].name ≠ nm) ∧ Hid (Below w.heap.size w wr)) (fun i _ => l.length - (intOf i).toNat)
  case atStart => exact ⟨0, rfl, by omega, (fun j _ hj => absurd hj (Nat.not_lt_zero _)), Below.refl _ _⟩
  case round =>
    obtain ⟨k, rfl, hk, hall, hB⟩ := hrel
    by_cases hlt : k < l.length
    · obtain ⟨ad, hA, p0, p1, p2, p3, p4, p5, p6⟩ := (FlatRow.below hl.1 hB.out).at7 hlt rfl
      subst hA
      obtain ⟨H, hH⟩ : ∃ H, H = l[k] := ⟨_, rfl⟩
      rw [← hH] at p0 p1 p2 p3 p4 p5 p6
      replace hH := Lib.hid hH
      by_cases q : H.name = nm
      · have qb : (H.name.toList == nm.toList) = true := by rw [q]; simp
        replace qb := Lib.hid qb
        replace q := Lib.hid q
        go_wp2_with (go_at_call 67; refine (nameIs_any H nm b _ ((hB.out.cell (p := ⟨b, 0, none⟩) hbl.out).trans hb.out) (Nat.lt_of_lt_of_le hbl.out hB.out.size)).mono ?_; rintro e w1 ⟨rfl, hb1⟩; rw [qb.out])
        go_ret
        exact ⟨by rw [nameIdx_stop hlt hall.out (by rw [← hH.out]; exact q.out)]; rfl, hB.out.trans (hb1.mono hB.out.size)⟩
      · have qb : (H.name.toList == nm.toList) = false := by rw [bytes_beq]; simpa using q
        replace qb := Lib.hid qb
        replace q := Lib.hid q
        go_wp2_with (go_at_call 67; refine (nameIs_any H nm b _ ((hB.out.cell (p := ⟨b, 0, none⟩) hbl.out).trans hb.out) (Nat.lt_of_lt_of_le hbl.out hB.out.size)).mono ?_; rintro e w1 ⟨rfl, hb1⟩; rw [qb.out])
        refine ⟨⟨k + 1, by go_num, by omega, (fun j hj hjk => ?_), hB.out.trans (hb1.mono hB.out.size)⟩, by simp only [intOf]; omega⟩
        rcases Nat.lt_succ_iff_lt_or_eq.1 hjk with h | rfl
        · exact hall.out j hj h
        · rw [← hH.out]; exact q.out
    · go_wp2
      go_ret
      exact ⟨by rw [nameIdx_end (fun j hj => hall.out j hj (by omega))]; rfl, hB.out⟩

set_option maxHeartbeats 1000000 in
set_option maxRecDepth 100000 in
theorem at_any (s : Store) (nm : ByteArray) (w : World) (hs : RdStore w s) :
    Calls Try.prog 70 #[storeVal s, .string nm] w fun e w' => e = .returned (.int .i64 (nameIdx nm s.heaps)) ∧ Below w.heap.size w w' := by
  have hll := hs.heaps.1.1
  have hb0 : Hid (Below w.heap.size w (w.alloc (.cells (storeCells s) 43))) := (Below.refl _ w).alloc (Nat.le_refl _) _
  have hst : Hid ((w.alloc (.cells (storeCells s) 43)).heap[w.heap.size]? = some (.cells (storeCells s) 43 (0, 0))) := heap_new _ _ _ rfl
  go_enter Try.func70, Try.ntmps70
  go_wp2
  go_loopw [5] (fun i wr => ∃ k : Nat, i = .int .i64 k ∧ k ≤ s.heaps.length ∧ Hid (∀ j (hj : j < s.heaps.length), j < k → s.heaps[j].name ≠ nm) ∧ Hid (wr = w.alloc (.cells (storeCells s) 43))) (fun i _ => s.heaps.length - (intOf i).toNat)
  case atStart => exact ⟨0, rfl, by omega, (fun j _ hj => absurd hj (Nat.not_lt_zero _)), rfl⟩
  case round =>
    obtain ⟨k, rfl, hk, hall, hW⟩ := hrel
    have hbw : Hid (Below w.heap.size w wr) := by unfold Hid; rw [hW.out]; exact hb0.out
    obtain ⟨_, _, _, k3, _, _⟩ := six_cells (show wr.heap[w.heap.size]? = some (.cells (storeCells s) 43 (0, 0)) by rw [hW.out]; exact hst.out)
    by_cases hlt : k < s.heaps.length
    · obtain ⟨ad, hA, p0, _⟩ := (FlatRow.below hs.heaps.1 hbw.out).at7 hlt rfl
      rw [hA] at k3
      replace hA := Lib.hid hA
      obtain ⟨hn, hH⟩ : ∃ hn, hn = s.heaps[k].name := ⟨_, rfl⟩
      rw [← hH] at p0
      replace hH := Lib.hid hH
      by_cases q : hn = nm
      · have qb : (hn.toList == nm.toList) = true := by rw [q]; simp
        replace q := Lib.hid q
        go_wp2
        go_ret
        exact ⟨by rw [nameIdx_stop hlt hall.out (by rw [← hH.out]; exact q.out)]; rfl, hbw.out⟩
      · have qb : (hn.toList == nm.toList) = false := by rw [bytes_beq]; simpa using q
        replace q := Lib.hid q
        go_wp2
        refine ⟨⟨k + 1, by go_num, by omega, (fun j hj hjk => ?_), hW⟩, by simp only [intOf]; omega⟩
        rcases Nat.lt_succ_iff_lt_or_eq.1 hjk with h | rfl
        · exact hall.out j hj h
        · rw [← hH.out]; exact q.out
    · go_wp2
      go_ret
      exact ⟨by rw [nameIdx_end (fun j hj => hall.out j hj (by omega))]; rfl, hbw.out⟩
end Go.Proofs.Ytpgkhlpepckfgaa
end
section
namespace Go.Proofs.Ytpgkhlpepckfgaa
open Go.RowKit Go.Lib

structure Chore where
  kind : Int
  plot : Int
  loads : Int
  name : ByteArray
  other : ByteArray
  days : Int
  per : Int
  rain : Span
abbrev choreCells (a : Chore) : Array Value := #[.int .i64 a.kind, .int .i64 a.plot, .int .i64 a.loads, .string a.name, .string a.other, .int .i64 a.days, .int .i64 a.per, .int .i64 a.rain.lo, .int .i64 a.rain.hi]
abbrev choreVal (a : Chore) : Value := .agg (choreCells a)
def noName : ByteArray := ⟨#[]⟩
/-- The fields that a chore of its kind names, and no others. -/
def namedP (a : Chore) : Chore :=
  if a.kind = 2 then ⟨2, a.plot, a.loads, a.name, noName, 0, 0, ⟨0, 0⟩⟩
  else if a.kind = 3 then ⟨3, 0, 0, a.name, noName, a.days, 0, a.rain⟩
  else if a.kind = 4 then ⟨4, 0, a.loads, a.name, noName, 0, 0, ⟨0, 0⟩⟩
  else if a.kind = 5 then ⟨5, 0, 0, a.name, a.other, 0, 0, ⟨0, 0⟩⟩
  else if a.kind = 6 then ⟨6, 0, 0, a.name, a.other, 0, a.per, ⟨0, 0⟩⟩
  else if a.kind = 7 then ⟨7, 0, a.loads, a.name, noName, 0, 0, ⟨0, 0⟩⟩
  else if a.kind = 8 then ⟨8, 0, 0, a.name, noName, 0, 0, ⟨0, 0⟩⟩
  else ⟨a.kind, 0, 0, noName, noName, 0, 0, ⟨0, 0⟩⟩
def sameChore (a b : Chore) : Bool :=
  decide (a.kind = b.kind) && decide (a.plot = b.plot) && decide (a.loads = b.loads) && decide (a.name = b.name) && decide (a.other = b.other) && decide (a.days = b.days) && decide (a.per = b.per) && decide (a.rain.lo = b.rain.lo) && decide (a.rain.hi = b.rain.hi)

/-- One part behind parts. -/
def addPart (l : List Portion) (p : Portion) : List Portion :=
  if l ≠ [] ∧ (l.getD (l.length - 1) default).plot = p.plot then l.set (l.length - 1) ⟨(l.getD (l.length - 1) default).plot, (l.getD (l.length - 1) default).loads + p.loads⟩ else l ++ [p]
/-- Parts behind others. -/
def behindP (l more : List Portion) : List Portion := more.foldl addPart l
theorem behindP_snoc (l more : List Portion) (p : Portion) : behindP l (more ++ [p]) = addPart (behindP l more) p := by simp [behindP, List.foldl_append]
theorem behindP_nil (l : List Portion) : behindP l [] = l := rfl

def setPartsH (h : Heap) (l : List Portion) : Heap := { h with parts := l, pa := none, pc := 0 }
def stageH (h : Heap) (n : Int) : Heap := { h with stage := n }
def wetH (h : Heap) (x : Span) : Heap := { h with wet := x }
/-- Parts are left in a heap, or it goes. -/
def keepP (s : Store) (k : Nat) (l : List Portion) : Store :=
  if l = [] then { s with heaps := s.heaps.eraseIdx k } else { s with heaps := s.heaps.set k (setPartsH (s.heaps.getD k default) l) }
def clampP (n : Int) : Int := min (max n 0) 1000

def yearP (s : Store) : Int × Store := if s.year < 100 then (0, { s with year := s.year + 1 }) else (3, s)
def mowP (pl : List Plot) (s : Store) (a : Chore) : Int × Store :=
  if inB a.plot 0 ((pl.length : Int) - 1) = false then (7, s)
  else if nameB a.name = false then (5, s)
  else if 0 ≤ nameIdx a.name s.heaps then (6, s)
  else if ¬ (s.last.getD a.plot.toNat 0 < 0 ∨ s.last.getD a.plot.toNat 0 ≤ s.year - (pl.getD a.plot.toNat default).rest) then (8, s)
  else if ¬ (a.loads ≠ 0 ∧ inB a.loads ((pl.getD a.plot.toNat default).size * (pl.getD a.plot.toNat default).yield.lo) ((pl.getD a.plot.toNat default).size * (pl.getD a.plot.toNat default).yield.hi) = true) then (1, s)
  else if ¬ (s.heaps.length < 16 ∧ a.loads + s.given.sum ≤ 100000) then (3, s)
  else (0, { s with last := s.last.set a.plot.toNat s.year, given := s.given.set a.plot.toNat (s.given.getD a.plot.toNat 0 + a.loads), heaps := s.heaps ++ [⟨a.name, (pl.getD a.plot.toNat default).crop, 1, [⟨a.plot, a.loads⟩], 0, (pl.getD a.plot.toNat default).wet, none, 0⟩] })
/-- What is done to the heap at k. -/
def dryP (s : Store) (k : Nat) (a : Chore) : Int × Store :=
  if (s.heaps.getD k default).stage = 3 then (8, s)
  else if ¬ (inB a.days 0 365 = true ∧ spanB a.rain.lo a.rain.hi 0 100 = true) then (1, s)
  else (0, { s with heaps := s.heaps.set k (wetH (s.heaps.getD k default) ⟨clampP ((s.heaps.getD k default).wet.lo - 20 * a.days + 5 * a.rain.lo), clampP ((s.heaps.getD k default).wet.hi - 10 * a.days + 15 * a.rain.hi)⟩) })
def combP (dry : Int) (s : Store) (k : Nat) (a : Chore) : Int × Store :=
  if ¬ ((s.heaps.getD k default).stage = 1 ∧ (s.heaps.getD k default).wet.hi ≤ dry) then (8, s)
  else if inB a.loads 0 (sumL (s.heaps.getD k default).parts - 1) = false then (1, s)
  else (0, { s with waste := behindP s.waste (cutF (s.heaps.getD k default).parts a.loads), heaps := s.heaps.set k (stageH (setPartsH (s.heaps.getD k default) (cutR (s.heaps.getD k default).parts a.loads)) 2) })
def joinP (s : Store) (k : Nat) (a : Chore) : Int × Store :=
  if nameIdx a.other s.heaps < 0 then (7, s)
  else if nameIdx a.other s.heaps = k then (10, s)
  else if ¬ ((s.heaps.getD k default).crop = (s.heaps.getD (nameIdx a.other s.heaps).toNat default).crop ∧ (s.heaps.getD k default).stage = (s.heaps.getD (nameIdx a.other s.heaps).toNat default).stage ∧ (s.heaps.getD k default).stage ≠ 3) then (8, s)
  else (0, keepP { s with heaps := s.heaps.set k (wetH (setPartsH (s.heaps.getD k default) (behindP (s.heaps.getD k default).parts (s.heaps.getD (nameIdx a.other s.heaps).toNat default).parts))
    ⟨min (s.heaps.getD k default).wet.lo (s.heaps.getD (nameIdx a.other s.heaps).toNat default).wet.lo, max (s.heaps.getD k default).wet.hi (s.heaps.getD (nameIdx a.other s.heaps).toNat default).wet.hi⟩) } (nameIdx a.other s.heaps).toNat [])
def pushH (s : Store) (h : Heap) : Store := { s with heaps := s.heaps ++ [h] }
def bindP (dry : Int) (s : Store) (k : Nat) (a : Chore) : Int × Store :=
  if nameB a.other = false then (5, s)
  else if 0 ≤ nameIdx a.other s.heaps then (6, s)
  else if ¬ ((s.heaps.getD k default).stage = 2 ∧ (s.heaps.getD k default).wet.hi ≤ dry) then (8, s)
  else if inB a.per 1 100 = false then (1, s)
  else if ¬ (0 < sumL (s.heaps.getD k default).parts / a.per) then (9, s)
  else if ¬ ((keepP s k (cutR (s.heaps.getD k default).parts (sumL (s.heaps.getD k default).parts / a.per * a.per))).heaps.length < 16) then (3, s)
  else (0, pushH (keepP s k (cutR (s.heaps.getD k default).parts (sumL (s.heaps.getD k default).parts / a.per * a.per)))
    ⟨a.other, (s.heaps.getD k default).crop, 3, cutF (s.heaps.getD k default).parts (sumL (s.heaps.getD k default).parts / a.per * a.per), a.per, (s.heaps.getD k default).wet, none, 0⟩)
def useP (s : Store) (k : Nat) (a : Chore) : Int × Store :=
  if (s.heaps.getD k default).stage ≠ 3 then (8, s)
  else if inB a.loads 1 (sumL (s.heaps.getD k default).parts / (s.heaps.getD k default).per) = false then (1, s)
  else (0, keepP { s with used := behindP s.used (cutF (s.heaps.getD k default).parts (a.loads * (s.heaps.getD k default).per)) } k (cutR (s.heaps.getD k default).parts (a.loads * (s.heaps.getD k default).per)))
def rotP (dry : Int) (s : Store) (k : Nat) : Int × Store :=
  if ¬ (dry < (s.heaps.getD k default).wet.hi) then (8, s)
  else (0, keepP { s with waste := behindP s.waste (s.heaps.getD k default).parts } k [])
/-- What a chore whose fields are named rightly does. -/
def workP (pl : List Plot) (dry : Int) (s : Store) (a : Chore) : Int × Store :=
  if a.kind = 1 then yearP s else if a.kind = 2 then mowP pl s a
  else if nameIdx a.name s.heaps < 0 then (7, s)
  else if a.kind = 3 then dryP s (nameIdx a.name s.heaps).toNat a
  else if a.kind = 4 then combP dry s (nameIdx a.name s.heaps).toNat a
  else if a.kind = 5 then joinP s (nameIdx a.name s.heaps).toNat a
  else if a.kind = 6 then bindP dry s (nameIdx a.name s.heaps).toNat a
  else if a.kind = 7 then useP s (nameIdx a.name s.heaps).toNat a
  else rotP dry s (nameIdx a.name s.heaps).toNat
def noStore : Store := ⟨0, [], [], [], [], [], none, 0, none, 0, none, 0, none, 0, none, 0⟩
/-- The store behind a chore, and the error. -/
def doP (pl : List Plot) (dry : Int) (s : Store) (a : Chore) : Int × Store :=
  if checkS pl dry s ≠ 0 then (checkS pl dry s, noStore)
  else if ¬ (1 ≤ a.kind ∧ a.kind ≤ 8) then (1, noStore)
  else if sameChore (namedP a) a = false then (1, noStore)
  else if (workP pl dry s a).1 ≠ 0 then ((workP pl dry s a).1, noStore) else (0, (workP pl dry s a).2)

/-- A heap but for where its parts lie. -/
def SameH (g h : Heap) : Prop := g.name = h.name ∧ g.crop = h.crop ∧ g.stage = h.stage ∧ g.parts = h.parts ∧ g.per = h.per ∧ g.wet = h.wet
def bareH (h : Heap) : Heap := { h with pa := none, pc := 0 }
/-- Two stores are one but for where their lists lie. -/
structure SameC (s t : Store) : Prop where
  year : s.year = t.year
  last : s.last = t.last
  given : s.given = t.given
  heaps : s.heaps.map bareH = t.heaps.map bareH
  used : s.used = t.used
  waste : s.waste = t.waste
theorem SameC.refl (s : Store) : SameC s s := ⟨rfl, rfl, rfl, rfl, rfl, rfl⟩
theorem SameC.trans {s t u : Store} (h : SameC s t) (k : SameC t u) : SameC s u := ⟨h.year.trans k.year, h.last.trans k.last, h.given.trans k.given, h.heaps.trans k.heaps, h.used.trans k.used, h.waste.trans k.waste⟩
theorem SameC.symm {s t : Store} (h : SameC s t) : SameC t s := ⟨h.year.symm, h.last.symm, h.given.symm, h.heaps.symm, h.used.symm, h.waste.symm⟩
theorem SameC.len {s t : Store} (h : SameC s t) : s.heaps.length = t.heaps.length := by
  have := congrArg List.length h.heaps; simpa using this
end Go.Proofs.Ytpgkhlpepckfgaa
end
section
namespace Go.Proofs.Ytpgkhlpepckfgaa
open Go.RowKit Go.Lib

section
variable {s t : Store}
theorem bare_getD (l : List Heap) (k : Nat) : bareH (l.getD k default) = (l.map bareH).getD k default := by
  rw [List.getD_eq_getElem?_getD, List.getD_eq_getElem?_getD, List.getElem?_map]
  cases l[k]? <;> rfl
theorem SameC.at (h : SameC s t) (k : Nat) : bareH (s.heaps.getD k default) = bareH (t.heaps.getD k default) := by rw [bare_getD, bare_getD, h.heaps]
theorem SameC.fields (h : SameC s t) (k : Nat) : (s.heaps.getD k default).name = (t.heaps.getD k default).name ∧ (s.heaps.getD k default).crop = (t.heaps.getD k default).crop ∧ (s.heaps.getD k default).stage = (t.heaps.getD k default).stage ∧
    (s.heaps.getD k default).parts = (t.heaps.getD k default).parts ∧ (s.heaps.getD k default).per = (t.heaps.getD k default).per ∧ (s.heaps.getD k default).wet = (t.heaps.getD k default).wet := by
  have e := h.at k
  have f : ∀ {β : Type} (g : Heap → β), g (bareH (s.heaps.getD k default)) = g (bareH (t.heaps.getD k default)) := fun g => by rw [e]
  exact ⟨f Heap.name, f Heap.crop, f Heap.stage, f Heap.parts, f Heap.per, f Heap.wet⟩
theorem bare_set {x y : Heap} (e : bareH x = bareH y) (l : List Portion) : bareH (setPartsH x l) = bareH (setPartsH y l) := by
  have : ∀ z, bareH (setPartsH z l) = setPartsH (bareH z) l := fun _ => rfl
  rw [this, this, e]
theorem bare_wet {x y : Heap} (e : bareH x = bareH y) (v : Span) : bareH (wetH x v) = bareH (wetH y v) := by
  have : ∀ z, bareH (wetH z v) = wetH (bareH z) v := fun _ => rfl
  rw [this, this, e]
theorem bare_stage {x y : Heap} (e : bareH x = bareH y) (v : Int) : bareH (stageH x v) = bareH (stageH y v) := by
  have : ∀ z, bareH (stageH z v) = stageH (bareH z) v := fun _ => rfl
  rw [this, this, e]
theorem map_eraseS {α β : Type} (f : α → β) : ∀ (l : List α) (k : Nat), (l.eraseIdx k).map f = (l.map f).eraseIdx k
  | [], _ => rfl
  | _ :: _, 0 => rfl
  | a :: l, k + 1 => by simp only [List.eraseIdx_cons_succ, List.map_cons, map_eraseS f l k]
theorem nameIdx_bare (nm : ByteArray) (l : List Heap) : nameIdx nm (l.map bareH) = nameIdx nm l := by
  unfold nameIdx
  rw [List.any_map, List.findIdx_map]
  rfl
theorem SameC.idx (h : SameC s t) (nm : ByteArray) : nameIdx nm s.heaps = nameIdx nm t.heaps := by rw [← nameIdx_bare, h.heaps, nameIdx_bare]
theorem SameC.put (h : SameC s t) (k : Nat) (x y : Heap) (he : bareH x = bareH y) : SameC { s with heaps := s.heaps.set k x } { t with heaps := t.heaps.set k y } :=
  ⟨h.year, h.last, h.given, by show (s.heaps.set k x).map bareH = (t.heaps.set k y).map bareH; rw [List.map_set, List.map_set, he, h.heaps], h.used, h.waste⟩
theorem SameC.wasted (h : SameC s t) (l : List Portion) : SameC { s with waste := l } { t with waste := l } := ⟨h.year, h.last, h.given, h.heaps, h.used, rfl⟩
theorem SameC.usedTo (h : SameC s t) (l : List Portion) : SameC { s with used := l } { t with used := l } := ⟨h.year, h.last, h.given, h.heaps, rfl, h.waste⟩
theorem SameC.push (h : SameC s t) (x y : Heap) (he : bareH x = bareH y) : SameC (pushH s x) (pushH t y) :=
  ⟨h.year, h.last, h.given, by show (s.heaps ++ [x]).map bareH = (t.heaps ++ [y]).map bareH; rw [List.map_append, List.map_append, h.heaps]; simp [he], h.used, h.waste⟩
theorem SameC.keep (h : SameC s t) (k : Nat) (l : List Portion) : SameC (keepP s k l) (keepP t k l) := by
  unfold keepP
  split
  · exact ⟨h.year, h.last, h.given, by show (s.heaps.eraseIdx k).map bareH = (t.heaps.eraseIdx k).map bareH; rw [map_eraseS, map_eraseS, h.heaps], h.used, h.waste⟩
  · exact h.put k _ _ (bare_set (h.at k) l)
/-- Errors that are the same, stores that are one. -/
def Same2 (x y : Int × Store) : Prop := x.1 = y.1 ∧ SameC x.2 y.2
theorem same_ite {p : Prop} [Decidable p] {a b c d : Int × Store} (h1 : p → Same2 a c) (h2 : ¬ p → Same2 b d) : Same2 (if p then a else b) (if p then c else d) := by
  split
  · exact h1 (by assumption)
  · exact h2 (by assumption)
theorem SameC.pair (h : SameC s t) (e : Int) : Same2 (e, s) (e, t) := ⟨rfl, h⟩

theorem SameC.yearP (h : SameC s t) : Same2 (yearP s) (yearP t) := by
  unfold Go.Proofs.Ytpgkhlpepckfgaa.yearP
  rw [h.year]
  exact same_ite (fun _ => ⟨rfl, rfl, h.last, h.given, h.heaps, h.used, h.waste⟩) (fun _ => h.pair _)
theorem SameC.mowP (h : SameC s t) (pl : List Plot) (a : Chore) : Same2 (mowP pl s a) (mowP pl t a) := by
  unfold Go.Proofs.Ytpgkhlpepckfgaa.mowP
  rw [h.idx, h.last, h.given, h.len, h.year]
  refine same_ite (fun _ => h.pair _) fun _ => same_ite (fun _ => h.pair _) fun _ => same_ite (fun _ => h.pair _) fun _ => same_ite (fun _ => h.pair _) fun _ => same_ite (fun _ => h.pair _) fun _ => same_ite (fun _ => h.pair _) fun _ => ⟨rfl, ?_⟩
  exact ⟨rfl, rfl, rfl, by show (s.heaps ++ _).map bareH = (t.heaps ++ _).map bareH; rw [List.map_append, List.map_append, h.heaps], h.used, h.waste⟩
theorem SameC.dryP (h : SameC s t) (k : Nat) (a : Chore) : Same2 (dryP s k a) (dryP t k a) := by
  obtain ⟨e1, e2, e3, e4, e5, e6⟩ := h.fields k
  unfold Go.Proofs.Ytpgkhlpepckfgaa.dryP
  rw [e3, e6]
  exact same_ite (fun _ => h.pair _) fun _ => same_ite (fun _ => h.pair _) fun _ => ⟨rfl, h.put k _ _ (bare_wet (h.at k) _)⟩
theorem SameC.combP (h : SameC s t) (dry : Int) (k : Nat) (a : Chore) : Same2 (combP dry s k a) (combP dry t k a) := by
  obtain ⟨e1, e2, e3, e4, e5, e6⟩ := h.fields k
  unfold Go.Proofs.Ytpgkhlpepckfgaa.combP
  rw [e3, e6, e4, h.waste]
  exact same_ite (fun _ => h.pair _) fun _ => same_ite (fun _ => h.pair _) fun _ => ⟨rfl, (h.wasted (behindP t.waste (cutF (t.heaps.getD k default).parts a.loads))).put k _ _ (bare_stage (bare_set (h.at k) (cutR (t.heaps.getD k default).parts a.loads)) 2)⟩
theorem SameC.joinP (h : SameC s t) (k : Nat) (a : Chore) : Same2 (joinP s k a) (joinP t k a) := by
  obtain ⟨e1, e2, e3, e4, e5, e6⟩ := h.fields k
  unfold Go.Proofs.Ytpgkhlpepckfgaa.joinP
  rw [h.idx]
  obtain ⟨f1, f2, f3, f4, f5, f6⟩ := h.fields (nameIdx a.other t.heaps).toNat
  rw [e2, e3, e4, e6, f2, f3, f4, f6]
  refine same_ite (fun _ => h.pair _) fun _ => same_ite (fun _ => h.pair _) fun _ => same_ite (fun _ => h.pair _) fun _ => ⟨rfl, ?_⟩
  dsimp only
  refine SameC.keep ?_ _ _
  refine SameC.put h k _ _ ?_
  exact bare_wet (bare_set (h.at k) _) _
theorem SameC.bindP (h : SameC s t) (dry : Int) (k : Nat) (a : Chore) : Same2 (bindP dry s k a) (bindP dry t k a) := by
  obtain ⟨e1, e2, e3, e4, e5, e6⟩ := h.fields k
  unfold Go.Proofs.Ytpgkhlpepckfgaa.bindP
  rw [h.idx, e2, e3, e4, e6, (h.keep k _).len]
  refine same_ite (fun _ => h.pair _) fun _ => same_ite (fun _ => h.pair _) fun _ => same_ite (fun _ => h.pair _) fun _ => same_ite (fun _ => h.pair _) fun _ => same_ite (fun _ => h.pair _) fun _ => same_ite (fun _ => h.pair _) fun _ => ⟨rfl, (h.keep k _).push _ _ rfl⟩
theorem SameC.useP (h : SameC s t) (k : Nat) (a : Chore) : Same2 (useP s k a) (useP t k a) := by
  obtain ⟨e1, e2, e3, e4, e5, e6⟩ := h.fields k
  unfold Go.Proofs.Ytpgkhlpepckfgaa.useP
  rw [e3, e4, e5, h.used]
  exact same_ite (fun _ => h.pair _) fun _ => same_ite (fun _ => h.pair _) fun _ => ⟨rfl, (h.usedTo (behindP t.used (cutF (t.heaps.getD k default).parts (a.loads * (t.heaps.getD k default).per)))).keep k _⟩
theorem SameC.rotP (h : SameC s t) (dry : Int) (k : Nat) : Same2 (rotP dry s k) (rotP dry t k) := by
  obtain ⟨e1, e2, e3, e4, e5, e6⟩ := h.fields k
  unfold Go.Proofs.Ytpgkhlpepckfgaa.rotP
  rw [e6, e4, h.waste]
  exact same_ite (fun _ => h.pair _) fun _ => ⟨rfl, (h.wasted (behindP t.waste (t.heaps.getD k default).parts)).keep k []⟩
theorem SameC.workP (h : SameC s t) (pl : List Plot) (dry : Int) (a : Chore) : Same2 (workP pl dry s a) (workP pl dry t a) := by
  unfold Go.Proofs.Ytpgkhlpepckfgaa.workP
  rw [h.idx]
  exact same_ite (fun _ => h.yearP) fun _ => same_ite (fun _ => h.mowP _ _) fun _ => same_ite (fun _ => h.pair _) fun _ => same_ite (fun _ => h.dryP _ _) fun _ => same_ite (fun _ => h.combP _ _ _) fun _ => same_ite (fun _ => h.joinP _ _) fun _ =>
    same_ite (fun _ => h.bindP _ _ _) fun _ => same_ite (fun _ => h.useP _ _) fun _ => h.rotP _ _

theorem heapsL_bare (l : List Heap) : heapsL (l.map bareH) = heapsL l := by unfold heapsL; rw [List.map_map]; rfl
theorem leftL_bare (l : List Heap) (i : Int) : leftL (l.map bareH) i = leftL l i := by unfold leftL; rw [List.map_map]; rfl
theorem heapAt_bare (pl : List Plot) (l : List Heap) (i : Nat) : heapAt pl (l.map bareH) i = heapAt pl l i := by
  unfold heapAt heapNew
  rw [← bare_getD, ← List.map_take, List.all_map]
  rfl
theorem SameC.storeB (h : SameC s t) (pl : List Plot) : storeB pl s = storeB pl t := by
  have e1 : ∀ i, heapAt pl s.heaps i = heapAt pl t.heaps i := fun i => by rw [← heapAt_bare, h.heaps, heapAt_bare]
  have e2 : ∀ i, leftL s.heaps i = leftL t.heaps i := fun i => by rw [← leftL_bare, h.heaps, leftL_bare]
  have e3 : totalS s = totalS t := by unfold totalS; rw [h.used, h.waste, ← heapsL_bare, h.heaps, heapsL_bare]
  have e4 : ∀ i, fieldAt s i = fieldAt t i := fun i => by unfold fieldAt; rw [h.last, h.year, h.given, h.used, h.waste, e2]
  unfold Go.Proofs.Ytpgkhlpepckfgaa.storeB
  rw [h.year, h.last, h.given, h.len, h.used, h.waste, e3, funext e1, funext e4]
theorem SameC.checkS (h : SameC s t) (pl : List Plot) (dry : Int) : checkS pl dry s = checkS pl dry t := by unfold Go.Proofs.Ytpgkhlpepckfgaa.checkS; rw [h.storeB]
theorem SameC.doP (h : SameC s t) (pl : List Plot) (dry : Int) (a : Chore) : Same2 (doP pl dry s a) (doP pl dry t a) := by
  have hw := h.workP pl dry a
  unfold Go.Proofs.Ytpgkhlpepckfgaa.doP
  rw [h.checkS, hw.1]
  exact same_ite (fun _ => (SameC.refl _).pair _) fun _ => same_ite (fun _ => (SameC.refl _).pair _) fun _ => same_ite (fun _ => (SameC.refl _).pair _) fun _ => same_ite (fun _ => (SameC.refl _).pair _) fun _ => ⟨rfl, hw.2⟩
end
end Go.Proofs.Ytpgkhlpepckfgaa
end
section
namespace Go.Proofs.Ytpgkhlpepckfgaa
open Go.RowKit Go.Lib
set_option maxHeartbeats 1000000 in
set_option maxRecDepth 100000 in
theorem eql_chore (x y : Chore) (w : World) : (binOp .eql 64 (choreVal x) (choreVal y)).run Try.prog w = .ok (.bool (sameChore x y)) w := by
  have hn : ∀ a b : ByteArray, (a.toList = b.toList) = (a = b) := fun a b => propext ⟨fun e => by have := bytes_beq a b; rw [e] at this; simpa using this, fun e => by rw [e]⟩
  simp only [go_sem, choreVal, choreCells]
  simp [go_sem, hn]
  have hs : sameChore x y = decide (x.kind = y.kind ∧ x.plot = y.plot ∧ x.loads = y.loads ∧ x.name = y.name ∧ x.other = y.other ∧ x.days = y.days ∧ x.per = y.per ∧ x.rain.lo = y.rain.lo ∧ x.rain.hi = y.rain.hi) := by
    unfold sameChore; simp only [Bool.decide_and, Bool.and_assoc]
  rw [hs]
  clear hs hn
  by_cases h1 : x.kind = y.kind <;> by_cases h2 : x.plot = y.plot <;> by_cases h3 : x.loads = y.loads <;> first | (simp only [h1, h2, h3, if_true, if_false, false_and, and_false, decide_false, true_and]; done) | skip
  by_cases h4 : x.name = y.name <;> by_cases h5 : x.other = y.other <;> by_cases h6 : x.days = y.days <;> first | (simp only [h1, h2, h3, h4, h5, h6, if_true, if_false, false_and, and_false, decide_false, true_and]; done) | skip
  by_cases h7 : x.per = y.per <;> by_cases h8 : x.rain.lo = y.rain.lo <;> by_cases h9 : x.rain.hi = y.rain.hi <;> simp only [h1, h2, h3, h4, h5, h6, h7, h8, h9, if_true, if_false, false_and, and_false, decide_false, true_and, and_true, decide_true]
end Go.Proofs.Ytpgkhlpepckfgaa
end
