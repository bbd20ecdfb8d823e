/-
  What straw.CheckStore and Ledger keep in memory as they go on.
-/
import Derived.Test.YtpgkhlpepckfgaaSPure2
import Derived.Test.YtpgkhlpepckfgaaWCheck
namespace Go.Proofs.Ytpgkhlpepckfgaa
open Go.RowKit Go.Lib

/-- From world w on: the farm and the store in their variables, a row of counts. -/
structure CS0 (w : World) (A : Option Addr) (c : Nat) (pl : List Plot) (dry : Int) (s : Store) (g : Nat) (f : Nat → Int) (wr : World) : Prop where
  below : Below w.heap.size w wr
  farm : wr.heap[w.heap.size]? = some (.cells #[.slice A pl.length c, .int .i64 dry] 24 (0, 0))
  store : wr.heap[w.heap.size + 1]? = some (.cells (storeCells s) 43 (0, 0))
  row : wr.heap[g]? = some (.cells (cntRow pl.length f) 3 (0, 0))
  hg : w.heap.size + 2 ≤ g
  size : g < wr.heap.size
/-- And a map of names. -/
structure CS (w : World) (A : Option Addr) (c : Nat) (pl : List Plot) (dry : Int) (s : Store) (g M k : Nat) (f : Nat → Int) (wr : World) : Prop extends CS0 w A c pl dry s g f wr where
  map : MapIs wr Try.prog 9 M k (knownH s.heaps k)
  hM : g < M
section
variable {w : World} {A : Option Addr} {c : Nat} {pl : List Plot} {dry : Int} {s : Store} {g M k : Nat} {f : Nat → Int} {wr wx : World}
theorem CS0.later (h : CS0 w A c pl dry s g f wr) (hb : Below wr.heap.size wr wx) : CS0 w A c pl dry s g f wx := by
  have := h.size; have := h.hg
  exact ⟨h.below.trans (hb.mono h.below.size), (hb.block _ (by omega)).trans h.farm, (hb.block _ (by omega)).trans h.store, (hb.block _ (by omega)).trans h.row, h.hg, Nat.lt_of_lt_of_le h.size hb.size⟩
theorem CS0.ext {f' : Nat → Int} (h : CS0 w A c pl dry s g f wr) (e : ∀ i, f i = f' i) : CS0 w A c pl dry s g f' wr := by
  obtain rfl : f = f' := funext e
  exact h
theorem CS.later (h : CS w A c pl dry s g M k f wr) (hb : Below wr.heap.size wr wx) : CS w A c pl dry s g M k f wx :=
  ⟨h.toCS0.later hb, h.map.below hb h.map.lt, h.hM⟩
theorem CS.ext {f' : Nat → Int} (h : CS w A c pl dry s g M k f wr) (e : ∀ i, f i = f' i) : CS w A c pl dry s g M k f' wr := ⟨h.toCS0.ext e, h.map, h.hM⟩
theorem CS.put (h : CS w A c pl dry s g M k f wr) (hm : MapIs wx Try.prog 9 M (k + 1) (knownH s.heaps (k + 1))) (hg2 : wr.grownBy wx (some M)) : CS w A c pl dry s g M (k + 1) f wx := by
  have := h.map.lt; have := h.hg; have := h.hM; have := h.size
  have hs := hg2.size
  exact ⟨⟨h.below.grown hg2 h.below.size (fun j e => by cases e; omega), (hg2.block _ (by omega) (fun e => by cases e; omega)).trans h.farm, (hg2.block _ (by omega) (fun e => by cases e; omega)).trans h.store, (hg2.block _ (by omega) (fun e => by cases e; omega)).trans h.row, h.hg, by omega⟩, hm, h.hM⟩
theorem CS0.cells (h : CS0 w A c pl dry s g f wr) : wr.cell? ⟨w.heap.size, 0, none⟩ = some (.slice A pl.length c) ∧ wr.cell? ⟨w.heap.size, 1, none⟩ = some (.int .i64 dry) := by
  constructor <;> simp [World.cell?, h.farm]
/-- The counts, one list more. -/
theorem CS0.count_any (h : CS0 w A c pl dry s g f wr) (B : Option Addr) (cb : Nat) (l : List Portion) (hl : RdParts w B l) (hm : Mild l) (hin : ∀ p ∈ l, 0 ≤ p.plot ∧ p.plot < (pl.length : Int)) (hf : ∀ i, 0 ≤ f i ∧ f i ≤ 1000000000000000) (hn : pl.length ≤ 1000000) :
    Calls Try.prog 61 #[.slice (some ⟨g, 0, none⟩) pl.length pl.length, .slice B l.length cb] wr fun e w' => e = .returned (.tuple #[]) ∧ CS0 w A c pl dry s g (fun i => f i + ofL l i) w' ∧ ∀ k, k < wr.heap.size → k ≠ g → w'.heap[k]? = wr.heap[k]? := by
  have := h.size; have := h.hg
  refine (Ytpgkhlpepckfgaa.count_any w wr g pl.length pl.length f B cb l hl h.below (by omega) h.size h.row hm hf hin hn (Nat.le_refl _)).mono ?_
  rintro e w' ⟨rfl, h1, h2, h3, h4⟩
  exact ⟨rfl, ⟨h2, (h4 _ (by omega) (by omega)).trans h.farm, (h4 _ (by omega) (by omega)).trans h.store, h1, h.hg, Nat.lt_of_lt_of_le h.size h3⟩, h4⟩
theorem CS.count_any (h : CS w A c pl dry s g M k f wr) (B : Option Addr) (cb : Nat) (l : List Portion) (hl : RdParts w B l) (hm : Mild l) (hin : ∀ p ∈ l, 0 ≤ p.plot ∧ p.plot < (pl.length : Int)) (hf : ∀ i, 0 ≤ f i ∧ f i ≤ 1000000000000000) (hn : pl.length ≤ 1000000) :
    Calls Try.prog 61 #[.slice (some ⟨g, 0, none⟩) pl.length pl.length, .slice B l.length cb] wr fun e w' => e = .returned (.tuple #[]) ∧ CS w A c pl dry s g M k (fun i => f i + ofL l i) w' := by
  refine (h.toCS0.count_any B cb l hl hm hin hf hn).mono ?_
  rintro e w' ⟨rfl, h1, h2⟩
  have := h.hM
  exact ⟨rfl, h1, h.map.same (h2 _ h.map.lt (by omega)), h.hM⟩
end

theorem CS0.made {w w3 : World} {A : Option Addr} {c : Nat} {pl : List Plot} {dry : Int} {s : Store} (hB : Below w.heap.size w w3) (hf : w3.heap[w.heap.size]? = some (.cells #[.slice A pl.length c, .int .i64 dry] 24 (0, 0))) (hs : w3.heap[w.heap.size + 1]? = some (.cells (storeCells s) 43 (0, 0))) (hz : w.heap.size + 2 ≤ w3.heap.size) :
    CS0 w A c pl dry s w3.heap.size (fun _ => 0) (w3.alloc (.cells (cntRow pl.length fun _ => 0) 3)) :=
  ⟨hB.alloc hB.size _, heap_old _ _ _ _ hf, heap_old _ _ _ _ hs, heap_new _ _ _ rfl, hz, by simp⟩
theorem CS0.mapped {w w5 : World} {A : Option Addr} {c : Nat} {pl : List Plot} {dry : Int} {s : Store} {g : Nat} {f : Nat → Int} (h : CS0 w A c pl dry s g f w5) : CS w A c pl dry s g w5.heap.size 0 f (w5.alloc (.map #[] 0)) :=
  ⟨h.later ((Below.refl _ _).alloc (Nat.le_refl _) _), by rw [knownH_zero]; exact MapIs.made _ _ _, h.size⟩

theorem make_cnt (n : Nat) (hn : n ≤ 1000000) (w : World) : (Instr.makeSlice 29 (.int .i64 (n : Int)) (.int .i64 (n : Int))).run Try.prog w = .ok (.slice (some ⟨w.heap.size, 0, none⟩) n n) (w.alloc (.cells (cntRow n fun _ => 0) 3)) := by
  rw [← made_cnt]
  exact run_make_row' 29 3 (.int .i64 0) 8 Try.underlying29 info3 rfl .i64 .i64 n (by omega) (by omega) w
theorem mild_fields {s : Store} {k : Nat} (h1 : Mild s.used) (h2 : Mild s.waste) (h3 : s.heaps.length ≤ 1000) (h4 : ∀ x ∈ s.heaps.take k, Mild x.parts) (i : Nat) : 0 ≤ ofL s.used i + ofL s.waste i + leftL (s.heaps.take k) i ∧ ofL s.used i + ofL s.waste i + leftL (s.heaps.take k) i ≤ 1000000000000000 := by
  have a := h1.of i
  have b := h2.of i
  have d := leftL_bounds i h4
  have e : (s.heaps.take k).length ≤ 1000 := by rw [List.length_take]; omega
  omega
theorem mild_taken {pl : List Plot} {s : Store} {k : Nat} (hk : k ≤ s.heaps.length) (hh : ∀ x ∈ s.heaps, x.parts.length ≤ 1000000) (h : ∀ j, j < k → heapAt pl s.heaps j = true) : ∀ x ∈ s.heaps.take k, Mild x.parts := fun x hx => by
  obtain ⟨j, hj, rfl⟩ := List.mem_iff_getElem.1 hx
  rw [List.length_take] at hj
  rw [List.getElem_take]
  have := h j (by omega)
  rw [heapAt_eq (by omega), Bool.and_eq_true] at this
  exact proper_mild (heapB_proper this.2) (hh _ (List.getElem_mem _))
end Go.Proofs.Ytpgkhlpepckfgaa
