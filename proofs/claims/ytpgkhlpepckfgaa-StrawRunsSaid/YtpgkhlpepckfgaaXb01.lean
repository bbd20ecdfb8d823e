/-
  What lies where while a chore is done as the specification has it. What a chore does, as the specification has it, for the kinds that ask little: walked. Parts put behind others, as the specification has it: walked.
-/
import Derived.Test.YtpgkhlpepckfgaaXa21
import Derived.Test.YtpgkhlpepckfgaaXa31
import Derived.Test.YtpgkhlpepckfgaaXb00
set_option linter.all false
set_option linter.unusedVariables false
set_option linter.unusedSimpArgs false
section
namespace Go.Proofs.Ytpgkhlpepckfgaa
open Go.RowKit Go.Lib

/-- What a function that hands back a store and an error does. -/
def RefOut (B : Nat) (s : Store) (r : Int × Store) (w : World) (e : Ending) (w' : World) : Prop := ∃ t, e = .returned (.tuple #[storeVal t, .int .i64 r.1]) ∧ Below B w w' ∧ (r.1 = 0 → SameC t r.2 ∧ Rows B none t w' ∧ ∀ k, Lies t k → Lies s k ∨ w.heap.size ≤ k) ∧ ∀ k, k < w.heap.size → ¬ Owns s k → w'.heap[k]? = w.heap[k]?
theorem ret_store {fn : Func} {p q : Tmp} (h : fn.results = #[.cell p 43, .tmp q]) {tmps : Array Value} {W : World} {b : Nat} {e : Int} {a0 a1 a2 a3 a4 a5 : Value} (hp : tmps.getD p undef = ptr b) (hq : tmps.getD q undef = .int .i64 e)
    (hg : W.heap[b]? = some (.cells #[a0, a1, a2, a3, a4, a5] 43 (0, 0))) : (results fn tmps).run Try.prog W = .ok (.tuple #[.agg #[a0, a1, a2, a3, a4, a5], .int .i64 e]) W := by
  have hp' : tmps[p]?.getD undef = .pointer (some ⟨b, 0, none⟩) := by simpa using hp
  have hq' : tmps[q]?.getD undef = .int .i64 e := by simpa using hq
  obtain ⟨c0, c1, c2, c3, c4, c5⟩ := cells6 hg
  simp [results, h, hp', hq', asAddr, go_sem, c0, c1, c2, c3, c4, c5]
abbrev emptyC : Array Value := #[.int .i64 0, .slice none 0 0, .slice none 0 0, .slice none 0 0, .slice none 0 0, .slice none 0 0]
/-- The farm, the store as it stands, the chore, the result. -/
structure RX (s0 : Store) (B : Nat) (w : World) (A : Option Addr) (c : Nat) (pl : List Plot) (dry : Int) (a : Chore) (t : Store) (W : World) : Prop where
  below : Below B w W
  farm : W.heap[w.heap.size]? = some (.cells #[.slice A pl.length c, .int .i64 dry] 24 (0, 0))
  store : W.heap[w.heap.size + 1]? = some (.cells (storeCells t) 43 (0, 0))
  chore : W.heap[w.heap.size + 1 + 1]? = some (.cells (choreCells a) 64 (0, 0))
  out : W.heap[w.heap.size + 1 + 1 + 1]? = some (.cells emptyC 43 (0, 0))
  size : w.heap.size + 4 ≤ W.heap.size
  rows : Rows B (some (w.heap.size + 1)) t W
  frm : ∀ k, Lies t k → Lies s0 k ∨ w.heap.size + 4 ≤ k
  low : ∀ k, Lies s0 k → k < w.heap.size
  own : ∀ k, Owns t k → Owns s0 k ∨ w.heap.size + 4 ≤ k
  kept : ∀ k, k < w.heap.size → ¬ Owns s0 k → W.heap[k]? = w.heap[k]?
  hB : B ≤ w.heap.size
abbrev RXw (w : World) (A : Option Addr) (c : Nat) (pl : List Plot) (dry : Int) (a : Chore) (s : Store) : World :=
  (((w.alloc (.cells #[.slice A pl.length c, .int .i64 dry] 24)).alloc (.cells (storeCells s) 43)).alloc (.cells (choreCells a) 64)).alloc (.cells emptyC 43)
section
variable {B : Nat} {w : World} {A : Option Addr} {c : Nat} {pl : List Plot} {dry : Int} {a : Chore} {s0 s t : Store} {W W' : World}
theorem RX.make (h : Rows B none s w) (hB : B ≤ w.heap.size) : RX s B w A c pl dry a s (RXw w A c pl dry a s) := by
  have hb : Below w.heap.size w (RXw w A c pl dry a s) := ((((Below.refl _ w).alloc (Nat.le_refl _) _).alloc (by simp) _).alloc (by simp; omega) _).alloc (by simp; omega) _
  refine ⟨hb.mono hB, ?_, ?_, ?_, ?_, by simp, h.boxed hb (by omega) (by simp), fun k hk => .inl hk, fun k hk => h.lies hk, fun k hk => .inl hk, fun k hk _ => hb.block k hk, hB⟩
  · exact heap_old _ _ _ _ (heap_old _ _ _ _ (heap_old _ _ _ _ (heap_new _ _ _ rfl)))
  · exact heap_old _ _ _ _ (heap_old _ _ _ _ (heap_new _ _ _ (by simp)))
  · exact heap_old _ _ _ _ (heap_new _ _ _ (by simp))
  · exact heap_new _ _ _ (by simp)
theorem RX.far (h : RX s0 B w A c pl dry a t W) : ∀ k, Lies t k → k < w.heap.size ∨ w.heap.size + 4 ≤ k := fun k hk => by
  rcases h.frm k hk with h1 | h1
  · exact .inl (h.low k h1)
  · exact .inr h1
theorem RX.ownLies {k : Nat} (h : Owns t k) : Lies t k := by
  rcases h with e | e | e
  · exact .inl e
  · exact .inr (.inl e)
  · exact .inr (.inr (.inl e))
/-- A block that was there and is not the store's own is not the store's own now. -/
theorem RX.notOwn (h : RX s0 B w A c pl dry a t W) {k g : Nat} (hk : k < w.heap.size) (hn : ¬ Owns s0 k) (hg : Owns t g) : k ≠ g := fun e => by
  rcases h.own g hg with h1 | h1
  · exact hn (e ▸ h1)
  · omega
theorem RX.bLe (h : RX s0 B w A c pl dry a t W) : B ≤ W.heap.size := by have := h.size; have := h.hB; omega
theorem RX.later (h : RX s0 B w A c pl dry a t W) (hb : Below W.heap.size W W') : RX s0 B w A c pl dry a t W' := by
  have hz := h.size
  exact ⟨h.below.trans (hb.mono h.bLe), (hb.block _ (by omega)).trans h.farm, (hb.block _ (by omega)).trans h.store, (hb.block _ (by omega)).trans h.chore, (hb.block _ (by omega)).trans h.out, Nat.le_trans hz hb.size, h.rows.later hb, h.frm, h.low, h.own, fun k hk hn => (hb.block k (by omega)).trans (h.kept k hk hn), h.hB⟩
/-- A field of the store that holds no row of its own is written, or one whose row is given. -/
theorem RX.put (h : RX s0 B w A c pl dry a t W) {t' : Store} (j : Nat) (u : Value) (he : (storeCells t).setIfInBounds j u = storeCells t') (hr : Rows B (some (w.heap.size + 1)) t' W) (hf : ∀ k, Lies t' k → Lies s0 k ∨ w.heap.size + 4 ≤ k) (ho : ∀ k, Owns t' k → Owns t k) : RX s0 B w A c pl dry a t' (W.setCell ⟨w.heap.size + 1, j, none⟩ u) := by
  have hne : ∀ k, k ≠ w.heap.size + 1 → (W.setCell ⟨w.heap.size + 1, j, none⟩ u).heap[k]? = W.heap[k]? := fun k hk => Below.heap_setCell _ _ _ _ hk
  have hB := h.hB
  refine ⟨h.below.setCell (p := ⟨w.heap.size + 1, j, none⟩) (by show B ≤ _ + 1; omega) _, (hne _ (by omega)).trans h.farm, by rw [← he]; exact set_cells h.store u, (hne _ (by omega)).trans h.chore, (hne _ (by omega)).trans h.out, by rw [set_size]; exact h.size, hr.box j u, hf, h.low, fun k hk => h.own k (ho k hk), fun k hk hn => (hne k (by omega)).trans (h.kept k hk hn), h.hB⟩
/-- A row of the store's own is written. -/
theorem RX.row (h : RX s0 B w A c pl dry a t W) {t' : Store} {g : Nat} (j : Nat) (u : Value) (hg : Owns t g) (hgB : B ≤ g) (hr : Rows B (some (w.heap.size + 1)) t' (W.setCell ⟨g, j, none⟩ u)) (hc : storeCells t' = storeCells t) (hf : ∀ k, Lies t' k → Lies t k) (ho : ∀ k, Owns t' k → Owns t k) : RX s0 B w A c pl dry a t' (W.setCell ⟨g, j, none⟩ u) := by
  have hne : ∀ k, k ≠ g → (W.setCell ⟨g, j, none⟩ u).heap[k]? = W.heap[k]? := fun k hk => Below.heap_setCell _ _ _ _ hk
  have h1 := h.far g (RX.ownLies hg)
  exact ⟨h.below.setCell (p := ⟨g, j, none⟩) hgB _, (hne _ (by omega)).trans h.farm, by rw [hc]; exact (hne _ (by omega)).trans h.store, (hne _ (by omega)).trans h.chore, (hne _ (by omega)).trans h.out, by rw [set_size]; exact h.size, hr, fun k hk => h.frm k (hf k hk), h.low, fun k hk => h.own k (ho k hk), fun k hk hn => (hne k (h.notOwn hk hn hg)).trans (h.kept k hk hn), h.hB⟩
theorem RX.lastTo (h : RX s0 B w A c pl dry a t W) {g i : Nat} (hg : t.la = some ⟨g, 0, none⟩) (v : Int) : RX s0 B w A c pl dry a { t with last := t.last.set i v } (W.setCell ⟨g, i, none⟩ (.int .i64 v)) :=
  h.row i _ (.inl (by rw [hg]; rfl)) (h.rows.lastLt (by rw [hg]; rfl)).1 (h.rows.lastTo hg v) (by simp [storeCells]) (fun k hk => hk) fun k hk => hk
theorem RX.givenTo (h : RX s0 B w A c pl dry a t W) {g i : Nat} (hg : t.ga = some ⟨g, 0, none⟩) (v : Int) : RX s0 B w A c pl dry a { t with given := t.given.set i v } (W.setCell ⟨g, i, none⟩ (.int .i64 v)) :=
  h.row i _ (.inr (.inl (by rw [hg]; rfl))) (h.rows.givenLt (by rw [hg]; rfl)).1 (h.rows.givenTo hg v) (by simp [storeCells]) (fun k hk => hk) fun k hk => hk
/-- A heap's cell is written. -/
theorem RX.heapTo (h : RX s0 B w A c pl dry a t W) {g i j : Nat} {u : Value} {y : Heap} (hg : t.ha = some ⟨g, 0, none⟩) (hi : i < t.heaps.length) (hj : j < 7) (he : encHeap y = (encHeap t.heaps[i]).set j u)
    (hy : (RdParts W y.pa y.parts ∧ y.name.size ≤ 140737488351232) ∧ ∀ k, y.parts ≠ [] → blk y.pa = some k → Off t (some (w.heap.size + 1)) k) (hf : ∀ k, y.parts ≠ [] → blk y.pa = some k → Lies s0 k ∨ w.heap.size + 4 ≤ k) : RX s0 B w A c pl dry a { t with heaps := t.heaps.set i y } (W.setCell ⟨g, i * 7 + j, none⟩ u) := by
  have hne : ∀ k, k ≠ g → (W.setCell ⟨g, i * 7 + j, none⟩ u).heap[k]? = W.heap[k]? := fun k hk => Below.heap_setCell _ _ _ _ hk
  have h1 := h.far g (.inr (.inr (.inl (by rw [hg]; rfl))))
  refine ⟨h.below.setCell (p := ⟨g, i * 7 + j, none⟩) (h.rows.heapsLt (k := g) (by rw [hg]; rfl)).1 _, (hne _ (by omega)).trans h.farm, ?_, (hne _ (by omega)).trans h.chore, (hne _ (by omega)).trans h.out, by rw [set_size]; exact h.size, h.rows.heapTo hg hi hj he hy, fun k hk => ?_, h.low, fun k hk => h.own k hk, fun k hk hn => (hne k (h.notOwn hk hn (.inr (.inr (by rw [hg]; rfl))))).trans (h.kept k hk hn), h.hB⟩
  · have hc : storeCells { t with heaps := t.heaps.set i y } = storeCells t := by simp [storeCells]
    rw [hc]
    exact (hne _ (by omega)).trans h.store
  · rcases hk with e | e | e | e | e | ⟨z, hz, h1, h2⟩
    · exact h.frm k (.inl e)
    · exact h.frm k (.inr (.inl e))
    · exact h.frm k (.inr (.inr (.inl e)))
    · exact h.frm k (.inr (.inr (.inr (.inl e))))
    · exact h.frm k (.inr (.inr (.inr (.inr (.inl e)))))
    · rcases List.mem_or_eq_of_mem_set hz with h4 | rfl
      · exact h.frm k (.inr (.inr (.inr (.inr (.inr ⟨z, h4, h1, h2⟩)))))
      · exact hf k h1 h2
/-- A heap is put behind the others. -/
theorem RX.push (h : RX s0 B w A c pl dry a t W) {w1 : World} {v' : Value} {H' : Heap} (hp : RdParts W H'.pa H'.parts ∧ H'.name.size ≤ 140737488351232) (ho : ∀ k, H'.parts ≠ [] → blk H'.pa = some k → Off t (some (w.heap.size + 1)) k)
    (hf : ∀ k, H'.parts ≠ [] → blk H'.pa = some k → Lies s0 k ∨ w.heap.size + 4 ≤ k) (hown : w1.ownsRow B 77 7 v' (t.heaps.length + 1) (t.heaps.flatMap encHeap ++ encHeap H'))
    (hgrow : W.grownBy w1 (Value.slice t.ha t.heaps.length t.hc).ownBlock) (hnear : ∀ k, v'.ownBlock = some k → (Value.slice t.ha t.heaps.length t.hc).ownBlock = some k ∨ W.heap.size ≤ k) (hl : t.heaps.length + 1 ≤ 1000) :
    ∃ A' c', v' = .slice A' (t.heaps.length + 1) c' ∧ RX s0 B w A c pl dry a { t with heaps := t.heaps ++ [H'], ha := A', hc := c' } (w1.setCell ⟨w.heap.size + 1, 3, none⟩ v') ∧ w1.cell? ⟨w.heap.size + 1, 3, none⟩ = some (.slice t.ha t.heaps.length t.hc) ∧ w1.frozen? ⟨w.heap.size + 1, 3, none⟩ = false := by
  have : ∃ A' c', v' = .slice A' (t.heaps.length + 1) c' := by
    rcases hown.2 with ⟨rfl, h0⟩ | ⟨g, cap, cur, rfl, _⟩
    · exact ⟨none, 0, by rw [h0]⟩
    · exact ⟨_, cap, rfl⟩
  obtain ⟨A', c', rfl⟩ := this
  have hlen : (t.heaps ++ [H']).length = t.heaps.length + 1 := by simp
  have hz := h.size
  have hR : Rows B (some (w.heap.size + 1)) { t with heaps := t.heaps ++ [H'], ha := A', hc := c' } w1 :=
    h.rows.heapsTo (l := t.heaps ++ [H']) (A := A') (c := c') hgrow.size (fun k hk hne => hgrow.block k hk (fun e => hne (by rw [ownBlock_slice] at e; exact e.symm)))
      (by rw [hlen, List.flatMap_append]; simpa using hown) (fun k e => by have := hnear k (by rw [ownBlock_slice]; exact e); rw [ownBlock_slice] at this; exact this)
      (fun g hg => by
        rcases List.mem_append.1 hg with h1 | h1
        · exact h.rows.old h1
        · simp at h1; subst h1; exact ⟨hp, ho⟩) (by rw [hlen]; exact hl)
  have hk : ∀ k, w.heap.size ≤ k → k < w.heap.size + 4 → w1.heap[k]? = W.heap[k]? := fun k h1 h2 => hgrow.block k (by omega) (fun e => by
    rw [ownBlock_slice] at e
    have := h.far k (.inr (.inr (.inl e.symm)))
    omega)
  have hX1 : RX s0 B w A c pl dry a { t with heaps := t.heaps, ha := t.ha } W := h
  have hst : w1.heap[w.heap.size + 1]? = some (.cells (storeCells t) 43 (0, 0)) := (hk _ (by omega) (by omega)).trans h.store
  have hb : Below B w w1 := h.below.grown hgrow h.bLe (fun k e => by rw [ownBlock_slice] at e; exact (h.rows.heapsLt e).1)
  have hne : ∀ k, k ≠ w.heap.size + 1 → (w1.setCell ⟨w.heap.size + 1, 3, none⟩ (.slice A' (t.heaps.length + 1) c')).heap[k]? = w1.heap[k]? := fun k hk => Below.heap_setCell _ _ _ _ hk
  have hB := h.hB
  refine ⟨A', c', rfl, ⟨hb.setCell (p := ⟨w.heap.size + 1, 3, none⟩) (by show B ≤ _ + 1; omega) _, (hne _ (by omega)).trans ((hk _ (by omega) (by omega)).trans h.farm), ?_, (hne _ (by omega)).trans ((hk _ (by omega) (by omega)).trans h.chore), (hne _ (by omega)).trans ((hk _ (by omega) (by omega)).trans h.out),
    by rw [set_size]; exact Nat.le_trans hz hgrow.size, hR.box 3 _, fun k hk => ?_, h.low, fun k hk => ?_, fun k hk' hn => (hne k (by omega)).trans ((hgrow.block k (by omega) (fun e => h.notOwn hk' hn (.inr (.inr (by rw [ownBlock_slice] at e; exact e.symm))) rfl)).trans (h.kept k hk' hn)), h.hB⟩, (six_cells hst).2.2.2.1, frozen_of_row w1 _ 3 _ _ hst⟩
  · have := set_cells (o := 3) hst (.slice A' (t.heaps.length + 1) c')
    rw [this]
    simp [storeCells]
  · rcases hk with e | e | e | e | e | ⟨z, hz', h1, h2⟩
    · exact h.frm k (.inl e)
    · exact h.frm k (.inr (.inl e))
    · have := hnear k (by rw [ownBlock_slice]; exact e)
      rw [ownBlock_slice] at this
      rcases this with h3 | h3
      · exact h.frm k (.inr (.inr (.inl h3)))
      · exact .inr (by omega)
    · exact h.frm k (.inr (.inr (.inr (.inl e))))
    · exact h.frm k (.inr (.inr (.inr (.inr (.inl e)))))
    · rcases List.mem_append.1 hz' with h4 | h4
      · exact h.frm k (.inr (.inr (.inr (.inr (.inr ⟨z, h4, h1, h2⟩)))))
      · simp at h4; subst h4; exact hf k h1 h2
  · rcases hk with e | e | e
    · exact h.own k (.inl e)
    · exact h.own k (.inr (.inl e))
    · have := hnear k (by rw [ownBlock_slice]; exact e)
      rw [ownBlock_slice] at this
      rcases this with h3 | h3
      · exact h.own k (.inr (.inr h3))
      · exact .inr (by omega)
/-- Behind a call that hands back a store. -/
structure RXo (s0 : Store) (B : Nat) (w : World) (A : Option Addr) (c : Nat) (pl : List Plot) (dry : Int) (a : Chore) (s t : Store) (W : World) : Prop where
  below : Below B w W
  farm : W.heap[w.heap.size]? = some (.cells #[.slice A pl.length c, .int .i64 dry] 24 (0, 0))
  store : W.heap[w.heap.size + 1]? = some (.cells (storeCells s) 43 (0, 0))
  chore : W.heap[w.heap.size + 1 + 1]? = some (.cells (choreCells a) 64 (0, 0))
  out : W.heap[w.heap.size + 1 + 1 + 1]? = some (.cells emptyC 43 (0, 0))
  size : w.heap.size + 4 ≤ W.heap.size
  rows : Rows B none t W
  frm : ∀ k, Lies t k → Lies s0 k ∨ w.heap.size + 4 ≤ k
  low : ∀ k, Lies s0 k → k < w.heap.size
  own : ∀ k, Owns t k → Owns s0 k ∨ w.heap.size + 4 ≤ k
  kept : ∀ k, k < w.heap.size → ¬ Owns s0 k → W.heap[k]? = w.heap[k]?
  hB : B ≤ w.heap.size
theorem RX.got (h : RX s0 B w A c pl dry a s W) {X : Nat → Prop} (hrt : Rows B none t W') (hb : Below B W W') (hf : ∀ k, Lies t k → Lies s k ∨ X k ∨ W.heap.size ≤ k) (hk : ∀ k, k < W.heap.size → blk s.ha ≠ some k → W'.heap[k]? = W.heap[k]?) (hx : ∀ k, X k → Lies s0 k ∨ w.heap.size + 4 ≤ k) (how : ∀ k, Owns t k → Owns s k ∨ W.heap.size ≤ k) : RXo s0 B w A c pl dry a s t W' := by
  have hz := h.size
  have hk' : ∀ k, w.heap.size ≤ k → k < w.heap.size + 4 → W'.heap[k]? = W.heap[k]? := fun k h1 h2 => hk k (by omega) (fun e => by
    have := h.far k (.inr (.inr (.inl e)))
    omega)
  refine ⟨h.below.trans hb, (hk' _ (by omega) (by omega)).trans h.farm, (hk' _ (by omega) (by omega)).trans h.store, (hk' _ (by omega) (by omega)).trans h.chore, (hk' _ (by omega) (by omega)).trans h.out, Nat.le_trans hz hb.size, hrt, fun k hk => ?_, h.low, fun k hk => ?_, fun k hk' hn => (hk k (by omega) (fun e => h.notOwn hk' hn (.inr (.inr e)) rfl)).trans (h.kept k hk' hn), h.hB⟩
  rotate_left
  · rcases how k hk with h1 | h1
    · exact h.own k h1
    · exact .inr (by omega)
  rcases hf k hk with h1 | h1 | h1
  · exact h.frm k h1
  · exact hx k h1
  · exact .inr (by omega)
theorem RXo.given (h : RXo s0 B w A c pl dry a s t W) : RX s0 B w A c pl dry a t ((((((W.setCell ⟨w.heap.size + 1, 0, none⟩ (.int .i64 t.year)).setCell ⟨w.heap.size + 1, 1, none⟩ (.slice t.la t.last.length t.lc)).setCell ⟨w.heap.size + 1, 2, none⟩ (.slice t.ga t.given.length t.gc)).setCell ⟨w.heap.size + 1, 3, none⟩ (.slice t.ha t.heaps.length t.hc)).setCell ⟨w.heap.size + 1, 4, none⟩ (.slice t.ua t.used.length t.uc)).setCell ⟨w.heap.size + 1, 5, none⟩ (.slice t.wa t.waste.length t.wc)) := by
  have hz := h.size
  have hB := h.hB
  have hne : ∀ k, k ≠ w.heap.size + 1 → ((((((W.setCell ⟨w.heap.size + 1, 0, none⟩ (.int .i64 t.year)).setCell ⟨w.heap.size + 1, 1, none⟩ (.slice t.la t.last.length t.lc)).setCell ⟨w.heap.size + 1, 2, none⟩ (.slice t.ga t.given.length t.gc)).setCell ⟨w.heap.size + 1, 3, none⟩ (.slice t.ha t.heaps.length t.hc)).setCell ⟨w.heap.size + 1, 4, none⟩ (.slice t.ua t.used.length t.uc)).setCell ⟨w.heap.size + 1, 5, none⟩ (.slice t.wa t.waste.length t.wc)).heap[k]? = W.heap[k]? := fun k hk => set6_other _ _ _ _ _ _ hk
  refine ⟨set6_below _ _ _ _ _ _ h.below (by omega), (hne _ (by omega)).trans h.farm, set6 _ _ _ _ _ _ h.store, (hne _ (by omega)).trans h.chore, (hne _ (by omega)).trans h.out, by rw [set6_size]; exact hz, ?_, h.frm, h.low, h.own, fun k hk hn => (hne k (by omega)).trans (h.kept k hk hn), hB⟩
  exact (h.rows.besides (by omega) (fun k hk => by rcases h.frm k hk with h1 | h1; · have := h.low k h1; omega
                                                   · omega)).kept (by rw [set6_size]; exact Nat.le_refl _) fun k _ hk => set6_other _ _ _ _ _ _ (fun e => hk (by rw [e]))
/-- The result is written: what is told. -/
theorem RX.fin (h : RX s0 B w A c pl dry a t W) {r : Int × Store} (hr : r.1 = 0 → SameC t r.2) {fn : Func} {p q : Tmp} (hf : fn.results = #[.cell p 43, .tmp q]) {tmps : Array Value} (hp : tmps.getD p undef = ptr (w.heap.size + 1 + 1 + 1)) (hq : tmps.getD q undef = .int .i64 r.1) :
    bodyPost Try.prog fn (RefOut B s0 r w) .ret { tmps := tmps, defers := [] } ((((((W.setCell ⟨w.heap.size + 1 + 1 + 1, 0, none⟩ (.int .i64 t.year)).setCell ⟨w.heap.size + 1 + 1 + 1, 1, none⟩ (.slice t.la t.last.length t.lc)).setCell ⟨w.heap.size + 1 + 1 + 1, 2, none⟩ (.slice t.ga t.given.length t.gc)).setCell ⟨w.heap.size + 1 + 1 + 1, 3, none⟩ (.slice t.ha t.heaps.length t.hc)).setCell ⟨w.heap.size + 1 + 1 + 1, 4, none⟩ (.slice t.ua t.used.length t.uc)).setCell ⟨w.heap.size + 1 + 1 + 1, 5, none⟩ (.slice t.wa t.waste.length t.wc)) := by
  refine bodyPost_ret (ret_store hf hp hq (set6 _ _ _ _ _ _ h.out)) rfl ?_
  have hz := h.size
  have hB := h.hB
  refine ⟨t, rfl, set6_below _ _ _ _ _ _ h.below (by omega), fun e => ⟨hr e, (h.rows.loose (Nat.le_refl _)).put6 (by omega) (fun k hk => by have := h.far k hk; omega) _ _ _ _ _ _, fun k hk => (h.frm k hk).imp id (by omega)⟩, fun k hk hn => (set6_other _ _ _ _ _ _ (by omega)).trans (h.kept k hk hn)⟩
end
end Go.Proofs.Ytpgkhlpepckfgaa
end
section
namespace Go.Proofs.Ytpgkhlpepckfgaa
open Go.RowKit Go.Lib

theorem SameC.lies {s t : Store} (hl : t.la = s.la) (hg : t.ga = s.ga) (hh : t.ha = s.ha) (hu : t.ua = s.ua) (hw : t.wa = s.wa) (h1 : t.used = s.used) (h2 : t.waste = s.waste) (h3 : t.heaps = s.heaps) {k : Nat} (h : Lies t k) : Lies s k := by
  rcases h with e | e | e | ⟨a, b⟩ | ⟨a, b⟩ | ⟨g, hg', a, b⟩
  · exact .inl (hl ▸ e)
  · exact .inr (.inl (hg ▸ e))
  · exact .inr (.inr (.inl (hh ▸ e)))
  · exact .inr (.inr (.inr (.inl ⟨h1 ▸ a, hu ▸ b⟩)))
  · exact .inr (.inr (.inr (.inr (.inl ⟨h2 ▸ a, hw ▸ b⟩))))
  · exact .inr (.inr (.inr (.inr (.inr ⟨g, h3 ▸ hg', a, b⟩))))

set_option maxHeartbeats 2000000 in
set_option maxRecDepth 100000 in
theorem done_year (B : Nat) (A : Option Addr) (pl : List Plot) (c : Nat) (dry : Int) (s : Store) (a : Chore) (w : World) (h : Rows B none s w) (hB : B ≤ w.heap.size) (hk : a.kind = 1) (hy : 0 ≤ s.year ∧ s.year ≤ 100) :
    Calls Try.prog 78 #[.agg #[.slice A pl.length c, .int .i64 dry], storeVal s, choreVal a] w (RefOut B s (yearP s) w) := by
  obtain ⟨W0, hW0⟩ : ∃ W0, W0 = RXw w A c pl dry a s := ⟨_, rfl⟩
  have hX0 : Hid (RX s B w A c pl dry a s W0) := by rw [hW0]; exact RX.make h hB
  unfold RXw at hW0
  have hat : Hid (Calls Try.prog 70 #[storeVal s, .string a.name] W0 fun e w' => e = .returned (.int .i64 (nameIdx a.name s.heaps)) ∧ Below W0.heap.size W0 w') := at_any s a.name W0 hX0.out.rows.store
  obtain ⟨i, hi⟩ : ∃ i, i = nameIdx a.name s.heaps := ⟨_, rfl⟩
  rw [← hi] at hat
  replace hi := Lib.hid hi
  go_enter Try.func78, Try.ntmps78
  go_upto_region 2 with fail
  rw [← hW0]
  replace hW0 := Lib.hid hW0
  go_at_call 70
  (with_reducible refine hat.out.mono ?_)
  rintro e w1 ⟨rfl, hb1⟩
  have hX1 := Lib.hid (hX0.out.later hb1)
  clear hX0 hat
  obtain ⟨k0, k1, k2, k3, k4, k5⟩ := six_cells hX1.out.store
  obtain ⟨c0, c1, c2, c3, c4, c5, c6, c7, c8⟩ := nine_cells2 hX1.out.chore
  rw [hk] at c0
  obtain ⟨d0, d1, d2, d3, d4, d5⟩ := cells6 hX1.out.out
  have hfz : ∀ j, w1.frozen? ⟨w.heap.size + 1 + 1 + 1, j, none⟩ = false := fun j => frozen_of_row w1 _ j _ _ hX1.out.out
  have f0 := hfz 0
  have f1 := hfz 1
  have f2 := hfz 2
  have f3 := hfz 3
  have f4 := hfz 4
  have f5 := hfz 5
  clear hfz
  have g0 : w1.frozen? ⟨w.heap.size + 1, 0, none⟩ = false := frozen_of_row w1 _ 0 _ _ hX1.out.store
  by_cases hlt : s.year = 100
  · have hr : Hid (yearP s = (3, s)) := by unfold Hid yearP; rw [if_neg (by omega)]
    have hb : (s.year == 100) = true := by simpa using hlt
    replace hlt := Lib.hid hlt
    go_wp2_with fail
    rw [hr.out]
    exact hX1.out.fin (r := (3, s)) (fun e => by cases e) Try.results78 rfl rfl
  · have hr : Hid (yearP s = (0, { s with year := s.year + 1 })) := by unfold Hid yearP; rw [if_pos (by omega)]
    have hb : (s.year == 100) = false := by simpa using hlt
    have hwr : IntKind.i64.wrap (s.year + 1) = s.year + 1 := IntWalk.i64_in _ (by omega)
    go_wp2_with fail
    rw [hr.out]
    have hX2 : RX s B w A c pl dry a { s with year := s.year + 1 } (w1.setCell ⟨w.heap.size + 1, 0, none⟩ (.int .i64 (s.year + 1))) := hX1.out.put 0 _ rfl (hX1.out.rows.year _) (fun k hk => hX1.out.frm k (SameC.lies rfl rfl rfl rfl rfl rfl rfl rfl hk)) (fun k hk => hk)
    exact hX2.fin (r := (0, { s with year := s.year + 1 })) (fun _ => SameC.refl _) Try.results78 rfl rfl
end Go.Proofs.Ytpgkhlpepckfgaa
end
section
namespace Go.Proofs.Ytpgkhlpepckfgaa
open Go.RowKit Go.Lib

set_option maxHeartbeats 2000000 in
set_option maxRecDepth 100000 in
theorem joined_any (A B : Option Addr) (c cb : Nat) (l more : List Portion) (w : World) (hA : RdParts w A l) (hB : RdParts w B more) (hm : Mild l) (hm2 : Mild more) (hpos : ∀ p ∈ more, 0 < p.loads) :
    Calls Try.prog 111 #[.slice A l.length c, .slice B more.length cb] w (BehOut (behindP l more) w) := by
  have hml := hm2.1
  have hll1 := hm.1
  have hbd := Lib.hid (behindP_bounds l hm.2 more hm2.2)
  go_enter Try.func111, Try.ntmps111
  cases A with
  | none =>
    have h0 : l = [] := by
      cases l with
      | nil => rfl
      | cons a l => obtain ⟨ad, e, _⟩ := hA.2 0 a rfl; cases e
    subst h0
    go_wp2
    go_loopw [5, 6] (fun u i wr => ∃ (k : Nat) (v : Value), u = v ∧ i = .int .i64 k ∧ k ≤ more.length ∧ Hid (BehI w (behindP [] (more.take k)) v wr)) (fun _ i _ => more.length - (intOf i).toNat)
    case atStart => exact ⟨0, _, rfl, rfl, Nat.zero_le _, Below.refl _ _, PRow.nil _ _⟩
    case round =>
      obtain ⟨k, v, rfl, rfl, hk, hR⟩ := hrel
      by_cases hlt : k < more.length
      · have hat : Hid (∀ W, Below w.heap.size w W → ∃ ad, B = some ad ∧ W.cell? (ad.add (k * 2)) = some (.int .i64 (more[k].plot)) ∧ W.cell? ⟨(ad.add (k * 2)).block, (ad.add (k * 2)).off + 1, none⟩ = some (.int .i64 (more[k].loads))) := fun W hW => FlatRow.at2 (FlatRow.below hB hW) hlt rfl
        obtain ⟨ad, hA', p0, p1⟩ := hat.out _ hR.out.below
        subst hA'
        have hts := List.take_succ_eq_append_getElem hlt
        have hT := behindP_snoc [] (more.take k) more[k]
        rw [← hts] at hT
        obtain ⟨q1, q2⟩ := hm2.2 _ (List.getElem_mem hlt)
        have q3 := hpos _ (List.getElem_mem hlt)
        obtain ⟨n1, n2⟩ := hbd.out k hk
        obtain ⟨P, hP⟩ : ∃ P, P = more[k] := ⟨_, rfl⟩
        rw [← hP] at p0 p1 q1 q2 q3 hT
        obtain ⟨pp, hpp⟩ : ∃ pp, pp = P.plot := ⟨_, rfl⟩
        obtain ⟨ll, hll⟩ : ∃ ll, ll = P.loads := ⟨_, rfl⟩
        have hat2 : Hid (∀ W, Below w.heap.size w W → W.cell? (ad.add (k * 2)) = some (.int .i64 pp) ∧ W.cell? ⟨(ad.add (k * 2)).block, (ad.add (k * 2)).off + 1, none⟩ = some (.int .i64 ll)) := fun W hW => by
          obtain ⟨ad', e, h1, h2⟩ := hat.out W hW
          cases e
          rw [← hP, ← hpp] at h1
          rw [← hP, ← hll] at h2
          exact ⟨h1, h2⟩
        clear hat
        rw [← hpp] at p0
        rw [← hll] at p1 q1 q2 q3
        obtain ⟨o, ho⟩ : ∃ o, o = behindP [] (more.take k) := ⟨_, rfl⟩
        rw [← ho] at hR hT n1 n2
        have hPe : Hid (P = ⟨pp, ll⟩) := by unfold Hid; rw [hpp, hll]
        replace hP := Lib.hid hP
        clear hpp hll hts ho
        have hz63 : Hid (o.length + 1 ≤ maxLen) := by unfold Hid maxLen; omega
        have hzby : Hid ((o.length + 1) * 16 ≤ 140737488355328) := by unfold Hid; omega
        by_cases hz : o.length = 0
        · have hoe : o = [] := List.eq_nil_of_length_eq_zero hz
          have hT2 := Lib.hid (hT.trans (addPart_end (.inl hoe)))
          subst hoe
          obtain ⟨A2, c2, rfl⟩ := hR.out.row.slice
          clear hT hz
          go_wp2
          go_big_quiet (fail)
          obtain ⟨wc, hwc⟩ : ∃ wc, wc = wr.drewN nq := ⟨_, rfl⟩
          rw [← hwc]
          have hbc : Below wr.heap.size wr wc := by rw [hwc]; exact below_drewN_ _ _
          have hR2 := Lib.hid (hR.out.later hbc)
          obtain ⟨p2, p3⟩ := hat2.out _ hR2.out.below
          have hnew := Lib.hid (new_two wc ⟨pp, ll⟩)
          have hbase : Hid (w.heap.size ≤ (wc.alloc (.cells #[.int .i64 pp, .int .i64 ll] 91)).heap.size) := by unfold Hid; rw [World.size_alloc]; have := hR2.out.below.size; omega
          replace hwc := Lib.hid hwc
          go_wp2_with (at_builtin; refine wp_app _ rfl (.tmp 58) (.tmp 63) 41 rfl w.heap.size 91 2 16 Try.underlying41 info91 rfl (by decide) _ _ _ rfl (hR2.out.later ((Below.refl _ _).alloc (Nat.le_refl _) _)).row ⟨wc.heap.size, 0, none⟩ 1 1 [.int .i64 pp, .int .i64 ll] rfl rfl hnew.out (by simp [Value.oneCell']) hz63.out hzby.out hbase.out ?_; intro v' w1 hown hgrow hnear; have hP := Lib.hid ((hR2.out.later ((Below.refl _ _).alloc (Nat.le_refl _) _)).push ⟨pp, ll⟩ hown hgrow); clear hown hgrow hnear)
          exact ⟨⟨k + 1, by go_num, by omega, by unfold Hid; rw [hT2.out, hPe.out]; exact hP.out⟩, by simp only [intOf]; omega⟩
        · obtain ⟨m, hmo⟩ : ∃ m, o.length = m + 1 := ⟨o.length - 1, by omega⟩
          obtain ⟨g, cap, rfl, c0, c1, f1, gs⟩ := hR.out.cells hmo
          obtain ⟨Q, hQ⟩ : ∃ Q, Q = o[m]'(by omega) := ⟨_, rfl⟩
          obtain ⟨qp, hqp⟩ : ∃ qp, qp = Q.plot := ⟨_, rfl⟩
          obtain ⟨ql, hql⟩ : ∃ ql, ql = Q.loads := ⟨_, rfl⟩
          rw [← hQ, ← hqp] at c0
          rw [← hQ, ← hql] at c1
          have hq := n2 Q (by rw [hQ]; exact List.getElem_mem _)
          rw [← hql] at hq
          have hQ' : Hid (o[m]'(by omega) = ⟨qp, ql⟩) := by unfold Hid; rw [← hQ, hqp, hql]
          have hml : m < 100000000 := by omega
          by_cases he : qp = pp
          · have heb : (qp == pp) = true := by simpa using he
            have hT2 : Hid (behindP [] (more.take (k + 1)) = o.set m ⟨qp, ql + ll⟩) := by
              unfold Hid
              rw [hT, addPart_last hmo (by rw [hQ'.out, hPe.out]; exact he), hQ'.out, hPe.out]
            have hwr : IntKind.i64.wrap (ql + ll) = ql + ll := IntWalk.i64_in _ (by omega)
            replace he := Lib.hid he
            clear hQ hqp hql hT
            go_wp2
            go_big_quiet (fail)
            obtain ⟨wc, hwc⟩ : ∃ wc, wc = wr.drewN nq := ⟨_, rfl⟩
            rw [← hwc]
            have hbc : Below wr.heap.size wr wc := by rw [hwc]; exact below_drewN_ _ _
            obtain ⟨rb, sb⟩ := bcell hbc
            have hR2 := Lib.hid (hR.out.later hbc)
            obtain ⟨p2, p3⟩ := hat2.out _ hR2.out.below
            replace hwc := Lib.hid hwc
            go_wp2
            go_region
            all_goals
              go_wp2
              have hP := hR2.out.turn hmo (ql + ll)
              rw [hQ'.out] at hP
              exact ⟨⟨k + 1, _, rfl, by go_num, by omega, by unfold Hid; rw [hT2.out]; exact hP.later ((Below.refl _ _).drew)⟩, by simp only [intOf]; omega⟩
          · have heb : (qp == pp) = false := by simpa using he
            have hT2 : Hid (behindP [] (more.take (k + 1)) = o ++ [P]) := by
              unfold Hid
              rw [hT, addPart_end (.inr (by
                have e : o.length - 1 = m := by omega
                rw [e, getD_lt _ (by omega), hQ'.out, hPe.out]; exact he))]
            replace he := Lib.hid he
            clear hQ hqp hql hT
            go_wp2
            go_big_quiet (fail)
            obtain ⟨wc, hwc⟩ : ∃ wc, wc = wr.drewN nq := ⟨_, rfl⟩
            rw [← hwc]
            have hbc : Below wr.heap.size wr wc := by rw [hwc]; exact below_drewN_ _ _
            obtain ⟨rb, sb⟩ := bcell hbc
            have hR2 := Lib.hid (hR.out.later hbc)
            obtain ⟨p2, p3⟩ := hat2.out _ hR2.out.below
            have hnew := Lib.hid (new_two wc ⟨pp, ll⟩)
            have hbase : Hid (w.heap.size ≤ (wc.alloc (.cells #[.int .i64 pp, .int .i64 ll] 91)).heap.size) := by unfold Hid; rw [World.size_alloc]; have := hR2.out.below.size; omega
            replace hwc := Lib.hid hwc
            go_wp2_with (at_builtin; refine wp_app _ rfl (.tmp 58) (.tmp 63) 41 rfl w.heap.size 91 2 16 Try.underlying41 info91 rfl (by decide) _ _ _ rfl (hR2.out.later ((Below.refl _ _).alloc (Nat.le_refl _) _)).row ⟨wc.heap.size, 0, none⟩ 1 1 [.int .i64 pp, .int .i64 ll] rfl rfl hnew.out (by simp [Value.oneCell']) hz63.out hzby.out hbase.out ?_; intro v' w1 hown hgrow hnear; have hP := Lib.hid ((hR2.out.later ((Below.refl _ _).alloc (Nat.le_refl _) _)).push ⟨pp, ll⟩ hown hgrow); clear hown hgrow hnear)
            exact ⟨⟨k + 1, by go_num, by omega, by unfold Hid; rw [hT2.out, hPe.out]; exact hP.out⟩, by simp only [intOf]; omega⟩
      · go_wp2
        go_ret
        have hke : k = more.length := by omega
        subst hke
        rw [List.take_length] at hR
        obtain ⟨A2, c2, rfl⟩ := hR.out.row.slice
        exact ⟨A2, c2, rfl, hR.out.row, hR.out.below⟩
  | some ad0 =>
    have hnews0 := Lib.hid (rdparts_news hA)
    have hlen0 := Lib.hid (flat_len (sz := 2) (enc := encPortion) (fun _ => rfl) l)
    have hone0 := Lib.hid (parts_one l)
    have h630 : Hid (0 + l.length ≤ maxLen) := by unfold Hid maxLen; omega
    have hby0 : Hid ((0 + l.length) * 16 ≤ 140737488355328) := by unfold Hid; omega
    go_wp2_with (at_builtin; refine wp_app _ rfl (.const (.slice none 0 0)) (.tmp 7) 41 rfl w.heap.size 91 2 16 Try.underlying41 info91 rfl (by decide) _ 0 [] rfl (World.ownsRow_nil _ _ _ _) ad0 l.length c (l.flatMap encPortion) rfl hlen0.out hnews0.out hone0.out h630.out hby0.out (Nat.le_refl _) ?_; intro v1 w1 hown1 hgrow1 hnear1; have hR0 : Hid (BehI w l v1 w1) := ⟨(Below.refl _ w).grown hgrow1 (Nat.le_refl _) (fun k e => by cases (show (none : Option Nat) = some k from e)), by rw [Nat.zero_add, List.nil_append] at hown1; exact hown1⟩; clear hown1 hgrow1 hnear1)
    go_loopw [5, 6] (fun u i wr => ∃ (k : Nat) (v : Value), u = v ∧ i = .int .i64 k ∧ k ≤ more.length ∧ Hid (BehI w (behindP l (more.take k)) v wr)) (fun _ i _ => more.length - (intOf i).toNat)
    case atStart => exact ⟨0, _, rfl, rfl, Nat.zero_le _, hR0.out⟩
    case round =>
      obtain ⟨k, v, rfl, rfl, hk, hR⟩ := hrel
      by_cases hlt : k < more.length
      · have hat : Hid (∀ W, Below w.heap.size w W → ∃ ad, B = some ad ∧ W.cell? (ad.add (k * 2)) = some (.int .i64 (more[k].plot)) ∧ W.cell? ⟨(ad.add (k * 2)).block, (ad.add (k * 2)).off + 1, none⟩ = some (.int .i64 (more[k].loads))) := fun W hW => FlatRow.at2 (FlatRow.below hB hW) hlt rfl
        obtain ⟨ad, hA', p0, p1⟩ := hat.out _ hR.out.below
        subst hA'
        have hts := List.take_succ_eq_append_getElem hlt
        have hT := behindP_snoc l (more.take k) more[k]
        rw [← hts] at hT
        obtain ⟨q1, q2⟩ := hm2.2 _ (List.getElem_mem hlt)
        have q3 := hpos _ (List.getElem_mem hlt)
        obtain ⟨n1, n2⟩ := hbd.out k hk
        obtain ⟨P, hP⟩ : ∃ P, P = more[k] := ⟨_, rfl⟩
        rw [← hP] at p0 p1 q1 q2 q3 hT
        obtain ⟨pp, hpp⟩ : ∃ pp, pp = P.plot := ⟨_, rfl⟩
        obtain ⟨ll, hll⟩ : ∃ ll, ll = P.loads := ⟨_, rfl⟩
        have hat2 : Hid (∀ W, Below w.heap.size w W → W.cell? (ad.add (k * 2)) = some (.int .i64 pp) ∧ W.cell? ⟨(ad.add (k * 2)).block, (ad.add (k * 2)).off + 1, none⟩ = some (.int .i64 ll)) := fun W hW => by
          obtain ⟨ad', e, h1, h2⟩ := hat.out W hW
          cases e
          rw [← hP, ← hpp] at h1
          rw [← hP, ← hll] at h2
          exact ⟨h1, h2⟩
        clear hat
        rw [← hpp] at p0
        rw [← hll] at p1 q1 q2 q3
        obtain ⟨o, ho⟩ : ∃ o, o = behindP l (more.take k) := ⟨_, rfl⟩
        rw [← ho] at hR hT n1 n2
        have hPe : Hid (P = ⟨pp, ll⟩) := by unfold Hid; rw [hpp, hll]
        replace hP := Lib.hid hP
        clear hpp hll hts ho
        have hz63 : Hid (o.length + 1 ≤ maxLen) := by unfold Hid maxLen; omega
        have hzby : Hid ((o.length + 1) * 16 ≤ 140737488355328) := by unfold Hid; omega
        by_cases hz : o.length = 0
        · have hoe : o = [] := List.eq_nil_of_length_eq_zero hz
          have hT2 := Lib.hid (hT.trans (addPart_end (.inl hoe)))
          subst hoe
          obtain ⟨A2, c2, rfl⟩ := hR.out.row.slice
          clear hT hz
          go_wp2
          go_big_quiet (fail)
          obtain ⟨wc, hwc⟩ : ∃ wc, wc = wr.drewN nq := ⟨_, rfl⟩
          rw [← hwc]
          have hbc : Below wr.heap.size wr wc := by rw [hwc]; exact below_drewN_ _ _
          have hR2 := Lib.hid (hR.out.later hbc)
          obtain ⟨p2, p3⟩ := hat2.out _ hR2.out.below
          have hnew := Lib.hid (new_two wc ⟨pp, ll⟩)
          have hbase : Hid (w.heap.size ≤ (wc.alloc (.cells #[.int .i64 pp, .int .i64 ll] 91)).heap.size) := by unfold Hid; rw [World.size_alloc]; have := hR2.out.below.size; omega
          replace hwc := Lib.hid hwc
          go_wp2_with (at_builtin; refine wp_app _ rfl (.tmp 58) (.tmp 63) 41 rfl w.heap.size 91 2 16 Try.underlying41 info91 rfl (by decide) _ _ _ rfl (hR2.out.later ((Below.refl _ _).alloc (Nat.le_refl _) _)).row ⟨wc.heap.size, 0, none⟩ 1 1 [.int .i64 pp, .int .i64 ll] rfl rfl hnew.out (by simp [Value.oneCell']) hz63.out hzby.out hbase.out ?_; intro v' w1 hown hgrow hnear; have hP := Lib.hid ((hR2.out.later ((Below.refl _ _).alloc (Nat.le_refl _) _)).push ⟨pp, ll⟩ hown hgrow); clear hown hgrow hnear)
          exact ⟨⟨k + 1, _, rfl, by go_num, by omega, by unfold Hid; rw [hT2.out, hPe.out]; exact hP.out⟩, by simp only [intOf]; omega⟩
        · obtain ⟨m, hmo⟩ : ∃ m, o.length = m + 1 := ⟨o.length - 1, by omega⟩
          obtain ⟨g, cap, rfl, c0, c1, f1, gs⟩ := hR.out.cells hmo
          obtain ⟨Q, hQ⟩ : ∃ Q, Q = o[m]'(by omega) := ⟨_, rfl⟩
          obtain ⟨qp, hqp⟩ : ∃ qp, qp = Q.plot := ⟨_, rfl⟩
          obtain ⟨ql, hql⟩ : ∃ ql, ql = Q.loads := ⟨_, rfl⟩
          rw [← hQ, ← hqp] at c0
          rw [← hQ, ← hql] at c1
          have hq := n2 Q (by rw [hQ]; exact List.getElem_mem _)
          rw [← hql] at hq
          have hQ' : Hid (o[m]'(by omega) = ⟨qp, ql⟩) := by unfold Hid; rw [← hQ, hqp, hql]
          have hml : m < 100000000 := by omega
          by_cases he : qp = pp
          · have heb : (qp == pp) = true := by simpa using he
            have hT2 : Hid (behindP l (more.take (k + 1)) = o.set m ⟨qp, ql + ll⟩) := by
              unfold Hid
              rw [hT, addPart_last hmo (by rw [hQ'.out, hPe.out]; exact he), hQ'.out, hPe.out]
            have hwr : IntKind.i64.wrap (ql + ll) = ql + ll := IntWalk.i64_in _ (by omega)
            replace he := Lib.hid he
            clear hQ hqp hql hT
            go_wp2
            go_big_quiet (fail)
            obtain ⟨wc, hwc⟩ : ∃ wc, wc = wr.drewN nq := ⟨_, rfl⟩
            rw [← hwc]
            have hbc : Below wr.heap.size wr wc := by rw [hwc]; exact below_drewN_ _ _
            obtain ⟨rb, sb⟩ := bcell hbc
            have hR2 := Lib.hid (hR.out.later hbc)
            obtain ⟨p2, p3⟩ := hat2.out _ hR2.out.below
            replace hwc := Lib.hid hwc
            go_wp2
            go_region
            all_goals
              go_wp2
              have hP := hR2.out.turn hmo (ql + ll)
              rw [hQ'.out] at hP
              exact ⟨⟨k + 1, _, rfl, by go_num, by omega, by unfold Hid; rw [hT2.out]; exact hP.later ((Below.refl _ _).drew)⟩, by simp only [intOf]; omega⟩
          · have heb : (qp == pp) = false := by simpa using he
            have hT2 : Hid (behindP l (more.take (k + 1)) = o ++ [P]) := by
              unfold Hid
              rw [hT, addPart_end (.inr (by
                have e : o.length - 1 = m := by omega
                rw [e, getD_lt _ (by omega), hQ'.out, hPe.out]; exact he))]
            replace he := Lib.hid he
            clear hQ hqp hql hT
            go_wp2
            go_big_quiet (fail)
            obtain ⟨wc, hwc⟩ : ∃ wc, wc = wr.drewN nq := ⟨_, rfl⟩
            rw [← hwc]
            have hbc : Below wr.heap.size wr wc := by rw [hwc]; exact below_drewN_ _ _
            obtain ⟨rb, sb⟩ := bcell hbc
            have hR2 := Lib.hid (hR.out.later hbc)
            obtain ⟨p2, p3⟩ := hat2.out _ hR2.out.below
            have hnew := Lib.hid (new_two wc ⟨pp, ll⟩)
            have hbase : Hid (w.heap.size ≤ (wc.alloc (.cells #[.int .i64 pp, .int .i64 ll] 91)).heap.size) := by unfold Hid; rw [World.size_alloc]; have := hR2.out.below.size; omega
            replace hwc := Lib.hid hwc
            go_wp2_with (at_builtin; refine wp_app _ rfl (.tmp 58) (.tmp 63) 41 rfl w.heap.size 91 2 16 Try.underlying41 info91 rfl (by decide) _ _ _ rfl (hR2.out.later ((Below.refl _ _).alloc (Nat.le_refl _) _)).row ⟨wc.heap.size, 0, none⟩ 1 1 [.int .i64 pp, .int .i64 ll] rfl rfl hnew.out (by simp [Value.oneCell']) hz63.out hzby.out hbase.out ?_; intro v' w1 hown hgrow hnear; have hP := Lib.hid ((hR2.out.later ((Below.refl _ _).alloc (Nat.le_refl _) _)).push ⟨pp, ll⟩ hown hgrow); clear hown hgrow hnear)
            exact ⟨⟨k + 1, _, rfl, by go_num, by omega, by unfold Hid; rw [hT2.out, hPe.out]; exact hP.out⟩, by simp only [intOf]; omega⟩
      · go_wp2
        go_ret
        have hke : k = more.length := by omega
        subst hke
        rw [List.take_length] at hR
        obtain ⟨A2, c2, rfl⟩ := hR.out.row.slice
        exact ⟨A2, c2, rfl, hR.out.row, hR.out.below⟩
end Go.Proofs.Ytpgkhlpepckfgaa
end
