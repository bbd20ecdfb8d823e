/-
  All loads of a store, walked. A store whose lists lie in blocks of the call's own: what its memory keeps, and what a store into it does. No program is walked here. demand, and the heap with a name: walked. Whether parts are in order, and whether a store is more than statements look at: walked.
-/
import Derived.Test.YtpgkhlpepckfgaaXa10
import Derived.Test.YtpgkhlpepckfgaaXa13
import Derived.Test.YtpgkhlpepckfgaaXa17
import Derived.StillTailTactics
set_option linter.all false
set_option linter.unusedVariables false
set_option linter.unusedSimpArgs false
section
namespace Go.Proofs.Ytpgkhlpepckfgaa
open Go.RowKit Go.Lib

set_option maxHeartbeats 1000000 in
set_option maxRecDepth 100000 in
theorem total_any (s : Store) (w : World) (h : RdStore w s) (hm : MildH s.heaps) (hu : Mild s.used) (hw : Mild s.waste) :
    Calls Try.prog 89 #[storeVal s] w fun e w' => e = .returned (.int .i64 (totalS s)) ∧ Below w.heap.size w w' := by
  have hl := h.heaps.1.1
  have hlm := hm.1
  obtain ⟨u1, u2⟩ := hu.sum
  obtain ⟨v1, v2⟩ := hw.sum
  have hb0 : Below w.heap.size w (w.alloc (.cells (storeCells s) 43)) := (Below.refl _ w).alloc (Nat.le_refl _) _
  have hud := h.used.below hb0
  have hwd := h.waste.below hb0
  have hS0 : Hid ((w.alloc (.cells (storeCells s) 43)).heap[w.heap.size]? = some (.cells (storeCells s) 43 (0, 0))) := heap_new _ _ _ rfl
  have hb0 := Lib.hid hb0
  go_enter Try.func89, Try.ntmps89
  go_wp2
  have hq1 : ∀ n, Calls Try.prog 71 #[.slice s.ua s.used.length s.uc] ((w.alloc (.cells (storeCells s) 43)).drewN n) fun e w' => e = .returned (.int .i64 (sumL s.used)) ∧ w' = (w.alloc (.cells (storeCells s) 43)).drewN n := fun n => (loads_any _ _ _ _ (hud.below (below_drewN_ _ n)) hu).mono fun _ _ ⟨a, b⟩ => ⟨a, b.symm⟩
  have hq2 : ∀ n, Calls Try.prog 71 #[.slice s.wa s.waste.length s.wc] ((w.alloc (.cells (storeCells s) 43)).drewN n) fun e w' => e = .returned (.int .i64 (sumL s.waste)) ∧ w' = (w.alloc (.cells (storeCells s) 43)).drewN n := fun n => (loads_any _ _ _ _ (hwd.below (below_drewN_ _ n)) hw).mono fun _ _ ⟨a, b⟩ => ⟨a, b.symm⟩
  go_big_quiet (first | (go_at_call_of 71 (Value.slice s.ua s.used.length s.uc); exact Calls.quiet_of_same (hq1 _)) | (go_at_call 71; exact Calls.quiet_of_same (hq2 _)))
  go_wp2
  go_loopw [3, 4] (fun v j wr => ∃ k : Nat, v = .int .i64 (sumL s.used + sumL s.waste + heapsL (s.heaps.take k)) ∧ j = .int .i64 k ∧ k ≤ s.heaps.length ∧ w.heap.size < wr.heap.size ∧ Hid (wr.heap[w.heap.size]? = some (.cells (storeCells s) 43 (0, 0))) ∧ Hid (Below w.heap.size w wr)) (fun _ j _ => s.heaps.length - (intOf j).toNat)
  case atStart => exact ⟨0, by simp [heapsL], rfl, by omega, by show _ < (w.alloc _).heap.size; simp, hS0, hb0.out.trans (below_drewN_ _ _)⟩
  case round =>
    obtain ⟨k, rfl, rfl, hk, hsz, hS, hB⟩ := hrel
    obtain ⟨s0, s1, s2, s3, s4, s5⟩ := six_cells hS.out
    obtain ⟨t1, t2⟩ := hm.take k
    obtain ⟨b1, b2⟩ := heapsL_bounds t1
    by_cases hlt : k < s.heaps.length
    · obtain ⟨ad, hA, p0, p1, p2, p3, p4, p5, p6⟩ := (FlatRow.below h.heaps.1 hB.out).at7 hlt rfl
      obtain ⟨hp, _⟩ := h.heaps.2 _ (List.getElem_mem hlt)
      have hmk := hm.2 _ (List.getElem_mem hlt)
      have hs := heapsL_take s.heaps k hlt
      obtain ⟨q1, q2⟩ := hmk.sum
      have hs := Lib.hid hs
      rw [hA] at s3
      go_wp2_with (go_at_call 71; refine (loads_any _ _ _ _ (hp.below hB.out) hmk).mono ?_; rintro e w' ⟨rfl, rfl⟩)
      exact ⟨⟨k + 1, by rw [hs.out, Int.add_assoc], by go_num, by omega, hsz, hS, hB⟩, by simp only [intOf]; omega⟩
    · have hke : k = s.heaps.length := by omega
      subst hke
      go_wp2
      refine bodyPost_ret (v := .int .i64 (sumL s.used + sumL s.waste + heapsL (s.heaps.take s.heaps.length))) (by simp [results, Try.results89, go_sem]) rfl ⟨by rw [List.take_length]; rfl, hB.out⟩

end Go.Proofs.Ytpgkhlpepckfgaa
end
section
namespace Go.Proofs.Ytpgkhlpepckfgaa
open Go.RowKit Go.Lib

def blk (A : Option Addr) : Option Nat := A.map (·.block)
theorem ownBlock_slice (A : Option Addr) (n c : Nat) : (Value.slice A n c).ownBlock = blk A := by cases A <;> rfl
theorem add_block (a : Addr) (k : Nat) : (a.add k).block = a.block := by unfold Addr.add; split <;> rfl

theorem RdParts.keep {w w1 : World} {A : Option Addr} {l : List Portion} (h : RdParts w A l) (hs : ∀ k, l ≠ [] → blk A = some k → w1.heap[k]? = w.heap[k]?) : RdParts w1 A l :=
  ⟨h.1, fun i x hx => by
    obtain ⟨ad, e, hc⟩ := h.2 i x hx
    refine ⟨ad, e, fun j v hv => ?_⟩
    have hl : l ≠ [] := fun e0 => by subst e0; simp at hx
    have h1 := hs ad.block hl (by rw [e]; rfl)
    exact (World.cell?_of_block (by rw [add_block]; exact h1)).trans (hc j v hv)⟩
theorem RdParts.lt {w : World} {A : Option Addr} {l : List Portion} (h : RdParts w A l) {k : Nat} (hl : l ≠ []) (hk : blk A = some k) : k < w.heap.size := by
  obtain ⟨x, l', rfl⟩ := List.exists_cons_of_ne_nil hl
  obtain ⟨ad, e, hc⟩ := h.2 0 x rfl
  have h1 := World.block_lt_of_cell? w _ (hc 0 _ rfl)
  rw [add_block] at h1
  rw [e] at hk
  have : ad.block = k := by simpa [blk] using hk
  omega

/-- Blocks that hold parts of the store's. -/
def Reads (s : Store) (k : Nat) : Prop := (s.used ≠ [] ∧ blk s.ua = some k) ∨ (s.waste ≠ [] ∧ blk s.wa = some k) ∨ ∃ h ∈ s.heaps, h.parts ≠ [] ∧ blk h.pa = some k
/-- A block in which none of the store's own rows lies, nor x. -/
def Off (s : Store) (x : Option Nat) (k : Nat) : Prop := blk s.la ≠ some k ∧ blk s.ga ≠ some k ∧ blk s.ha ≠ some k ∧ x ≠ some k
/-- A store with three rows of the call's own, from B on, apart from one another, from x, and from where its parts lie. -/
structure Rows (B : Nat) (x : Option Nat) (s : Store) (W : World) : Prop where
  last : SlRow W B (.slice s.la s.last.length s.lc) s.last
  given : SlRow W B (.slice s.ga s.given.length s.gc) s.given
  heaps : W.ownsRow B 77 7 (.slice s.ha s.heaps.length s.hc) s.heaps.length (s.heaps.flatMap encHeap)
  used : RdParts W s.ua s.used
  waste : RdParts W s.wa s.waste
  parts : ∀ h ∈ s.heaps, RdParts W h.pa h.parts ∧ h.name.size ≤ 140737488351232
  small : s.last.length ≤ 1000 ∧ s.given.length ≤ 1000 ∧ s.heaps.length ≤ 1000
  a1 : ∀ k, blk s.la = some k → blk s.ga ≠ some k ∧ blk s.ha ≠ some k ∧ x ≠ some k
  a2 : ∀ k, blk s.ga = some k → blk s.ha ≠ some k ∧ x ≠ some k
  a3 : ∀ k, blk s.ha = some k → x ≠ some k
  off : ∀ k, Reads s k → Off s x k
  lt : ∀ k, x = some k → k < W.heap.size
section
variable {B : Nat} {x : Option Nat} {s : Store} {W W' : World}
theorem Rows.lastLt (h : Rows B x s W) {k : Nat} (e : blk s.la = some k) : B ≤ k ∧ k < W.heap.size := h.last.lt k (by rw [ownBlock_slice]; exact e)
theorem Rows.givenLt (h : Rows B x s W) {k : Nat} (e : blk s.ga = some k) : B ≤ k ∧ k < W.heap.size := h.given.lt k (by rw [ownBlock_slice]; exact e)
theorem Rows.heapsLt (h : Rows B x s W) {k : Nat} (e : blk s.ha = some k) : B ≤ k ∧ k < W.heap.size := h.heaps.lt k (by rw [ownBlock_slice]; exact e)
theorem Rows.readsLt (h : Rows B x s W) {k : Nat} (e : Reads s k) : k < W.heap.size := by
  rcases e with ⟨h1, h2⟩ | ⟨h1, h2⟩ | ⟨g, hg, h1, h2⟩
  · exact h.used.lt h1 h2
  · exact h.waste.lt h1 h2
  · exact (h.parts g hg).1.lt h1 h2
/-- What keeps the rows and the parts keeps all. -/
theorem Rows.kept (h : Rows B x s W) (hz : W.heap.size ≤ W'.heap.size) (hk : ∀ k, k < W.heap.size → x ≠ some k → W'.heap[k]? = W.heap[k]?) : Rows B x s W' :=
  ⟨ownsRow_same h.last (fun k e => by rw [ownBlock_slice] at e; exact hk k (h.lastLt e).2 (h.a1 k e).2.2), ownsRow_same h.given (fun k e => by rw [ownBlock_slice] at e; exact hk k (h.givenLt e).2 (h.a2 k e).2),
    ownsRow_same h.heaps (fun k e => by rw [ownBlock_slice] at e; exact hk k (h.heapsLt e).2 (h.a3 k e)),
    h.used.keep (fun k h1 h2 => hk k (h.used.lt h1 h2) (h.off k (.inl ⟨h1, h2⟩)).2.2.2), h.waste.keep (fun k h1 h2 => hk k (h.waste.lt h1 h2) (h.off k (.inr (.inl ⟨h1, h2⟩))).2.2.2),
    fun g hg => ⟨(h.parts g hg).1.keep (fun k h1 h2 => hk k ((h.parts g hg).1.lt h1 h2) (h.off k (.inr (.inr ⟨g, hg, h1, h2⟩))).2.2.2), (h.parts g hg).2⟩,
    h.small, h.a1, h.a2, h.a3, h.off, fun k e => Nat.lt_of_lt_of_le (h.lt k e) hz⟩
theorem Rows.later (h : Rows B x s W) (hb : Below W.heap.size W W') : Rows B x s W' := h.kept hb.size fun k hk _ => hb.block k hk
theorem Rows.box {b : Nat} (h : Rows B (some b) s W) (j : Nat) (u : Value) : Rows B (some b) s (W.setCell ⟨b, j, none⟩ u) :=
  h.kept (by rw [set_size]; exact Nat.le_refl _) fun k _ hne => Below.heap_setCell _ _ _ _ (fun e => hne (by rw [e]))
theorem Rows.year (h : Rows B x s W) (y : Int) : Rows B x { s with year := y } W := ⟨h.last, h.given, h.heaps, h.used, h.waste, h.parts, h.small, h.a1, h.a2, h.a3, h.off, h.lt⟩
theorem Rows.usedTo (h : Rows B x s W) {A : Option Addr} {l : List Portion} (c : Nat) (hr : RdParts W A l) (ho : ∀ k, l ≠ [] → blk A = some k → Off s x k) : Rows B x { s with used := l, ua := A, uc := c } W :=
  ⟨h.last, h.given, h.heaps, hr, h.waste, h.parts, h.small, h.a1, h.a2, h.a3, fun k e => by
    rcases e with ⟨h1, h2⟩ | e | e
    · exact ho k h1 h2
    · exact h.off k (.inr (.inl e))
    · exact h.off k (.inr (.inr e)), h.lt⟩
theorem Rows.wasteTo (h : Rows B x s W) {A : Option Addr} {l : List Portion} (c : Nat) (hr : RdParts W A l) (ho : ∀ k, l ≠ [] → blk A = some k → Off s x k) : Rows B x { s with waste := l, wa := A, wc := c } W :=
  ⟨h.last, h.given, h.heaps, h.used, hr, h.parts, h.small, h.a1, h.a2, h.a3, fun k e => by
    rcases e with e | ⟨h1, h2⟩ | e
    · exact h.off k (.inl e)
    · exact ho k h1 h2
    · exact h.off k (.inr (.inr e)), h.lt⟩
/-- What is new is off all rows. -/
theorem Rows.newOff (h : Rows B x s W) {k : Nat} (hk : W.heap.size ≤ k) : Off s x k :=
  ⟨fun e => by have := (h.lastLt e).2; omega, fun e => by have := (h.givenLt e).2; omega, fun e => by have := (h.heapsLt e).2; omega, fun e => by have := h.lt k e; omega⟩
/-- The row of heaps has turned, or is a new one. -/
theorem Rows.heapsTo (h : Rows B x s W) {l : List Heap} {A : Option Addr} {c : Nat} (hz : W.heap.size ≤ W'.heap.size) (hk : ∀ k, k < W.heap.size → blk s.ha ≠ some k → W'.heap[k]? = W.heap[k]?)
    (hrow : W'.ownsRow B 77 7 (.slice A l.length c) l.length (l.flatMap encHeap)) (hnear : ∀ k, blk A = some k → blk s.ha = some k ∨ W.heap.size ≤ k)
    (hp : ∀ g ∈ l, (RdParts W g.pa g.parts ∧ g.name.size ≤ 140737488351232) ∧ ∀ k, g.parts ≠ [] → blk g.pa = some k → Off s x k) (hl : l.length ≤ 1000) : Rows B x { s with heaps := l, ha := A, hc := c } W' := by
  have far : ∀ k, k < W.heap.size → blk s.ha ≠ some k → blk A ≠ some k := fun k h1 h2 e => by
    rcases hnear k e with e1 | e1
    · exact h2 e1
    · omega
  refine ⟨ownsRow_same h.last (fun k e => ?_), ownsRow_same h.given (fun k e => ?_), hrow, h.used.keep (fun k h1 h2 => ?_), h.waste.keep (fun k h1 h2 => ?_), fun g hg => ⟨(hp g hg).1.1.keep (fun k h1 h2 => ?_), (hp g hg).1.2⟩, ⟨h.small.1, h.small.2.1, hl⟩, ?_, ?_, ?_, ?_, fun k e => Nat.lt_of_lt_of_le (h.lt k e) hz⟩
  · rw [ownBlock_slice] at e; exact hk k (h.lastLt e).2 (h.a1 k e).2.1
  · rw [ownBlock_slice] at e; exact hk k (h.givenLt e).2 (h.a2 k e).1
  · exact hk k (h.used.lt h1 h2) (h.off k (.inl ⟨h1, h2⟩)).2.2.1
  · exact hk k (h.waste.lt h1 h2) (h.off k (.inr (.inl ⟨h1, h2⟩))).2.2.1
  · exact hk k ((hp g hg).1.1.lt h1 h2) ((hp g hg).2 k h1 h2).2.2.1
  · exact fun k e => ⟨(h.a1 k e).1, far k (h.lastLt e).2 (h.a1 k e).2.1, (h.a1 k e).2.2⟩
  · exact fun k e => ⟨far k (h.givenLt e).2 (h.a2 k e).1, (h.a2 k e).2⟩
  · intro k e e1
    rcases hnear k e with e2 | e2
    · exact h.a3 k e2 e1
    · have := h.lt k e1; omega
  · intro k e
    have key : k < W.heap.size ∧ Off s x k := by
      rcases e with ⟨h1, h2⟩ | ⟨h1, h2⟩ | ⟨g, hg, h1, h2⟩
      · exact ⟨h.used.lt h1 h2, h.off k (.inl ⟨h1, h2⟩)⟩
      · exact ⟨h.waste.lt h1 h2, h.off k (.inr (.inl ⟨h1, h2⟩))⟩
      · exact ⟨(hp g hg).1.1.lt h1 h2, (hp g hg).2 k h1 h2⟩
    exact ⟨key.2.1, key.2.2.1, far k key.1 key.2.2.2.1, key.2.2.2.2⟩
/-- The heaps that stand may stand again. -/
theorem Rows.old (h : Rows B x s W) {g : Heap} (hg : g ∈ s.heaps) : (RdParts W g.pa g.parts ∧ g.name.size ≤ 140737488351232) ∧ ∀ k, g.parts ≠ [] → blk g.pa = some k → Off s x k :=
  ⟨h.parts g hg, fun k h1 h2 => h.off k (.inr (.inr ⟨g, hg, h1, h2⟩))⟩
end

theorem flat_len {α : Type} {enc : α → List Value} {sz : Nat} (hl : ∀ x, (enc x).length = sz) (l : List α) : (l.flatMap enc).length = l.length * sz := by
  induction l with
  | nil => simp
  | cons a l ih => rw [List.flatMap_cons, List.length_append, ih, hl, List.length_cons, Nat.add_one_mul]; omega
theorem flat_set {α : Type} {enc : α → List Value} {sz : Nat} (hl : ∀ x, (enc x).length = sz) : ∀ (l : List α) (i j : Nat) (y : α) (u : Value), (hi : i < l.length) → j < sz → enc y = (enc l[i]).set j u → (l.set i y).flatMap enc = (l.flatMap enc).set (i * sz + j) u
  | [], i, j, y, u, hi, _, _ => by simp at hi
  | a :: l, 0, j, y, u, _, hj, he => by
    have h1 := hl a
    simp only [List.getElem_cons_zero] at he
    simp only [List.set_cons_zero, List.flatMap_cons, he, Nat.zero_mul, Nat.zero_add]
    rw [List.set_append_left _ _ (by omega)]
  | a :: l, i + 1, j, y, u, hi, hj, he => by
    have h1 := hl a
    have ih := flat_set hl l i j y u (by simpa using hi) hj (by simpa using he)
    simp only [List.set_cons_succ, List.flatMap_cons, ih]
    rw [List.set_append_right _ _ (by rw [h1, Nat.add_one_mul]; omega)]
    congr 2
    rw [h1, Nat.add_one_mul]; omega
theorem flat_take {α : Type} {enc : α → List Value} {sz : Nat} (hl : ∀ x, (enc x).length = sz) : ∀ (l : List α) (i : Nat), (l.flatMap enc).take (i * sz) = (l.take i).flatMap enc
  | [], i => by simp
  | a :: l, 0 => by simp
  | a :: l, i + 1 => by
    have h1 := hl a
    rw [List.flatMap_cons, List.take_succ_cons, List.flatMap_cons, List.take_append, Nat.add_one_mul, h1, List.take_of_length_le (by omega), ← flat_take hl l i]
    congr 2; omega
theorem flat_drop {α : Type} {enc : α → List Value} {sz : Nat} (hl : ∀ x, (enc x).length = sz) : ∀ (l : List α) (i : Nat), (l.flatMap enc).drop (i * sz) = (l.drop i).flatMap enc
  | [], i => by simp
  | a :: l, 0 => by simp
  | a :: l, i + 1 => by
    have h1 := hl a
    rw [List.flatMap_cons, List.drop_succ_cons, List.drop_append, Nat.add_one_mul, h1, List.drop_eq_nil_of_le (by omega), List.nil_append, ← flat_drop hl l i]
    congr 1; omega
theorem encHeap_len (h : Heap) : (encHeap h).length = 7 := rfl

section
variable {B : Nat} {x : Option Nat} {s : Store} {W W' : World}
theorem SlRow.block {w : World} {v : Value} {l : List Int} (h : SlRow w B v l) (hl : l ≠ []) : ∃ g cap, v = .slice (some ⟨g, 0, none⟩) l.length cap := by
  rcases h.2 with ⟨_, h0⟩ | ⟨g, cap, _, rfl, _⟩
  · exact absurd (List.eq_nil_of_length_eq_zero h0) hl
  · exact ⟨g, cap, rfl⟩
/-- Where the row of last years lies. -/
theorem Rows.lastAt (h : Rows B x s W) {i : Nat} (hi : i < s.last.length) : ∃ g, s.la = some ⟨g, 0, none⟩ ∧ W.cell? ⟨g, i, none⟩ = some (.int .i64 s.last[i]) ∧ W.frozen? ⟨g, i, none⟩ = false := by
  obtain ⟨g, cap, e⟩ := h.last.block (fun e => by rw [e] at hi; simp at hi)
  simp only [Value.slice.injEq] at e
  obtain ⟨e1, _, e2⟩ := e
  have h1 := h.last
  rw [e1] at h1
  exact ⟨g, e1, (World.ownsRow.cellAt h1 i (by omega)).trans (by simp [hi]), World.ownsRow.frozenAt h1 i⟩
theorem Rows.givenAt (h : Rows B x s W) {i : Nat} (hi : i < s.given.length) : ∃ g, s.ga = some ⟨g, 0, none⟩ ∧ W.cell? ⟨g, i, none⟩ = some (.int .i64 s.given[i]) ∧ W.frozen? ⟨g, i, none⟩ = false := by
  obtain ⟨g, cap, e⟩ := h.given.block (fun e => by rw [e] at hi; simp at hi)
  simp only [Value.slice.injEq] at e
  obtain ⟨e1, _, e2⟩ := e
  have h1 := h.given
  rw [e1] at h1
  exact ⟨g, e1, (World.ownsRow.cellAt h1 i (by omega)).trans (by simp [hi]), World.ownsRow.frozenAt h1 i⟩
/-- Where the row of heaps lies. -/
theorem Rows.heapAt (h : Rows B x s W) {i : Nat} (hi : i < s.heaps.length) : ∃ g, s.ha = some ⟨g, 0, none⟩ ∧ (∀ j v, (encHeap s.heaps[i])[j]? = some v → W.cell? ⟨g, i * 7 + j, none⟩ = some v) ∧ (∀ j, W.frozen? ⟨g, j, none⟩ = false) := by
  have h1 := h.heaps
  rcases h1.2 with ⟨_, h0⟩ | ⟨g, cap, cur, e, _⟩
  · omega
  · simp only [Value.slice.injEq] at e
    obtain ⟨e1, _, e2⟩ := e
    rw [e1] at h1
    refine ⟨g, e1, fun j v hv => ?_, fun j => World.ownsRow.frozenAt h1 j⟩
    have hj : j < 7 := by
      have := (List.getElem?_eq_some_iff.1 hv).1
      rw [encHeap_len] at this; exact this
    have hlt : i * 7 + j < s.heaps.length * 7 := by have := Nat.mul_le_mul_right 7 (show i + 1 ≤ s.heaps.length from hi); omega
    rw [World.ownsRow.cellAt h1 _ hlt]
    exact flat_get (sz := 7) (fun _ => rfl) s.heaps i _ j v (by simp [hi]) hv
theorem SlRow.setAt {w : World} {g c : Nat} {l : List Int} {n : Nat} (h : SlRow w B (.slice (some ⟨g, 0, none⟩) l.length c) l) (i : Nat) (v : Int) (hn : n = l.length) : SlRow (w.setCell ⟨g, i, none⟩ (.int .i64 v)) B (.slice (some ⟨g, 0, none⟩) n c) (l.set i v) := by
  subst hn
  have := (World.ownsRow.stored h i (.int .i64 v)).1
  unfold SlRow
  rw [List.length_set, List.map_set]
  exact this
theorem Rows.lastTo (h : Rows B x s W) {g i : Nat} (hg : s.la = some ⟨g, 0, none⟩) (v : Int) : Rows B x { s with last := s.last.set i v } (W.setCell ⟨g, i, none⟩ (.int .i64 v)) := by
  have hb : blk s.la = some g := by rw [hg]; rfl
  have hs : ∀ k, k ≠ g → (W.setCell ⟨g, i, none⟩ (.int .i64 v)).heap[k]? = W.heap[k]? := fun k hk => Below.heap_setCell _ _ _ _ (by simpa using hk)
  have h1 := h.last
  rw [hg] at h1
  refine ⟨?_, ownsRow_same h.given (fun k e => ?_), ownsRow_same h.heaps (fun k e => ?_), h.used.keep (fun k e1 e2 => ?_), h.waste.keep (fun k e1 e2 => ?_), fun y hy => ⟨(h.parts y hy).1.keep (fun k e1 e2 => ?_), (h.parts y hy).2⟩, ⟨by rw [List.length_set]; exact h.small.1, h.small.2⟩, h.a1, h.a2, h.a3, h.off, fun k e => by rw [set_size]; exact h.lt k e⟩
  · show SlRow _ B (.slice s.la (s.last.set i v).length s.lc) (s.last.set i v)
    rw [hg]
    exact h1.setAt i v (by rw [List.length_set])
  · rw [ownBlock_slice] at e; exact hs k (fun e1 => (h.a1 g hb).1 (by rw [← e1]; exact e))
  · rw [ownBlock_slice] at e; exact hs k (fun e1 => (h.a1 g hb).2.1 (by rw [← e1]; exact e))
  · exact hs k (fun e => (h.off k (.inl ⟨e1, e2⟩)).1 (by rw [e]; exact hb))
  · exact hs k (fun e => (h.off k (.inr (.inl ⟨e1, e2⟩))).1 (by rw [e]; exact hb))
  · exact hs k (fun e => (h.off k (.inr (.inr ⟨y, hy, e1, e2⟩))).1 (by rw [e]; exact hb))
theorem Rows.givenTo (h : Rows B x s W) {g i : Nat} (hg : s.ga = some ⟨g, 0, none⟩) (v : Int) : Rows B x { s with given := s.given.set i v } (W.setCell ⟨g, i, none⟩ (.int .i64 v)) := by
  have hb : blk s.ga = some g := by rw [hg]; rfl
  have hs : ∀ k, k ≠ g → (W.setCell ⟨g, i, none⟩ (.int .i64 v)).heap[k]? = W.heap[k]? := fun k hk => Below.heap_setCell _ _ _ _ (by simpa using hk)
  have h1 := h.given
  rw [hg] at h1
  refine ⟨ownsRow_same h.last (fun k e => ?_), ?_, ownsRow_same h.heaps (fun k e => ?_), h.used.keep (fun k e1 e2 => ?_), h.waste.keep (fun k e1 e2 => ?_), fun y hy => ⟨(h.parts y hy).1.keep (fun k e1 e2 => ?_), (h.parts y hy).2⟩, ⟨h.small.1, by rw [List.length_set]; exact h.small.2.1, h.small.2.2⟩, h.a1, h.a2, h.a3, h.off, fun k e => by rw [set_size]; exact h.lt k e⟩
  · rw [ownBlock_slice] at e; exact hs k (fun e1 => (h.a1 k e).1 (by rw [e1]; exact hb))
  · show SlRow _ B (.slice s.ga (s.given.set i v).length s.gc) (s.given.set i v)
    rw [hg]
    exact h1.setAt i v (by rw [List.length_set])
  · rw [ownBlock_slice] at e; exact hs k (fun e1 => (h.a2 g hb).1 (by rw [← e1]; exact e))
  · exact hs k (fun e => (h.off k (.inl ⟨e1, e2⟩)).2.1 (by rw [e]; exact hb))
  · exact hs k (fun e => (h.off k (.inr (.inl ⟨e1, e2⟩))).2.1 (by rw [e]; exact hb))
  · exact hs k (fun e => (h.off k (.inr (.inr ⟨y, hy, e1, e2⟩))).2.1 (by rw [e]; exact hb))
/-- One cell of a heap has turned. -/
theorem Rows.heapTo (h : Rows B x s W) {g i j : Nat} {u : Value} {y : Heap} (hg : s.ha = some ⟨g, 0, none⟩) (hi : i < s.heaps.length) (hj : j < 7) (he : encHeap y = (encHeap s.heaps[i]).set j u)
    (hy : (RdParts W y.pa y.parts ∧ y.name.size ≤ 140737488351232) ∧ ∀ k, y.parts ≠ [] → blk y.pa = some k → Off s x k) : Rows B x { s with heaps := s.heaps.set i y } (W.setCell ⟨g, i * 7 + j, none⟩ u) := by
  have hrow := h.heaps
  rw [hg] at hrow
  have h2 := (World.ownsRow.stored hrow (i * 7 + j) u).1
  rw [← flat_set (sz := 7) (fun _ => rfl) s.heaps i j y u hi hj he] at h2
  have h3 := h.heapsTo (l := s.heaps.set i y) (A := s.ha) (c := s.hc) (W' := W.setCell ⟨g, i * 7 + j, none⟩ u) (by rw [set_size]; exact Nat.le_refl _)
    (fun k _ hne => Below.heap_setCell _ _ _ _ (fun e => hne (by rw [hg, e]; rfl))) (by rw [hg, List.length_set]; exact h2) (fun k e => .inl e)
    (fun z hz => by
      rcases List.mem_or_eq_of_mem_set hz with h4 | rfl
      · exact h.old h4
      · exact hy) (by rw [List.length_set]; exact h.small.2.2)
  exact h3
theorem Rows.heapsRd (h : Rows B x s W) : RdHeaps W s.ha s.heaps := by
  refine ⟨⟨by have := h.small.2.2; omega, fun i y hy => ?_⟩, h.parts⟩
  have hi := (List.getElem?_eq_some_iff.1 hy)
  obtain ⟨hi, rfl⟩ := hi
  obtain ⟨g, hg, hc, _⟩ := h.heapAt hi
  exact ⟨_, hg, fun j v hv => by rw [lit_add]; exact hc j v hv⟩
theorem Rows.store (h : Rows B x s W) : RdStore W s := by
  obtain ⟨A, c, e, hl⟩ := h.last.reads (by have := h.small.1; omega)
  obtain ⟨A', c', e', hg⟩ := h.given.reads (by have := h.small.2.1; omega)
  simp only [Value.slice.injEq] at e e'
  rw [← e.1] at hl
  rw [← e'.1] at hg
  exact ⟨hl, hg, h.heapsRd, h.used, h.waste⟩
end

/-- A store that a chore is done to: in the block b, behind the farm. -/
abbrev shedCells (A : Option Addr) (n c : Nat) (dry : Int) (s : Store) : Array Value := #[.slice A n c, .int .i64 dry, .int .i64 s.year, .slice s.la s.last.length s.lc, .slice s.ga s.given.length s.gc, .slice s.ha s.heaps.length s.hc, .slice s.ua s.used.length s.uc, .slice s.wa s.waste.length s.wc]
structure Own (B b : Nat) (A : Option Addr) (n c : Nat) (dry : Int) (s : Store) (W : World) : Prop where
  rows : Rows B (some b) s W
  box : W.heap[b]? = some (.cells (shedCells A n c dry s) 128 (0, 0))
  hb : B ≤ b
section
variable {B b : Nat} {A : Option Addr} {n c : Nat} {dry : Int} {s : Store} {W W' : World}
theorem Own.later (h : Own B b A n c dry s W) (hb : Below W.heap.size W W') : Own B b A n c dry s W' := ⟨h.rows.later hb, (hb.block b (h.rows.lt b rfl)).trans h.box, h.hb⟩
theorem Own.size (h : Own B b A n c dry s W) : b < W.heap.size := h.rows.lt b rfl
theorem Own.put {t : Store} {cs : Array Value} (h : Rows B (some b) t W) (hx : W.heap[b]? = some (.cells cs 128 (0, 0))) (hB : B ≤ b) (j : Nat) (u : Value) (he : cs.setIfInBounds j u = shedCells A n c dry t) : Own B b A n c dry t (W.setCell ⟨b, j, none⟩ u) :=
  ⟨h.box j u, by rw [← he]; exact set_cells hx u, hB⟩
theorem eight_cells {w : World} {b : Nat} {v0 v1 v2 v3 v4 v5 v6 v7 : Value} {t : TypeId} (h : w.heap[b]? = some (.cells #[v0, v1, v2, v3, v4, v5, v6, v7] t (0, 0))) : w.cell? ⟨b, 0, none⟩ = some v0 ∧ w.cell? ⟨b, 1, none⟩ = some v1 ∧ w.cell? ⟨b, 2, none⟩ = some v2 ∧ w.cell? ⟨b, 3, none⟩ = some v3 ∧ w.cell? ⟨b, 4, none⟩ = some v4 ∧ w.cell? ⟨b, 5, none⟩ = some v5 ∧ w.cell? ⟨b, 6, none⟩ = some v6 ∧ w.cell? ⟨b, 7, none⟩ = some v7 := by
  refine ⟨?_, ?_, ?_, ?_, ?_, ?_, ?_, ?_⟩ <;> simp [World.cell?, h]
theorem Own.frozen (h : Own B b A n c dry s W) (j : Nat) : W.frozen? ⟨b, j, none⟩ = false := frozen_of_row W b j _ _ h.box
end
end Go.Proofs.Ytpgkhlpepckfgaa
end
section
namespace Go.Proofs.Ytpgkhlpepckfgaa
open Go.RowKit Go.Lib

abbrev errChain (e : Int) : List PanicEntry := [{ v := .iface 30 (.int .i64 e), recovered := false }]
theorem demand_ok (e : Int) (w : World) : Calls Try.prog 75 #[.bool true, .int .i64 e] w fun x w' => x = .returned (.tuple #[]) ∧ w' = w := by
  go_enter Try.func75, Try.ntmps75
  go_wp2
  go_end0
  exact ⟨rfl, rfl⟩
theorem demand_no (e : Int) (w : World) : Calls Try.prog 75 #[.bool false, .int .i64 e] w fun x w' => x = .panicked (errChain e) ∧ w' = w := by
  go_enter Try.func75, Try.ntmps75
  go_wp2
  exact ⟨rfl, rfl, rfl⟩

set_option maxHeartbeats 1000000 in
set_option maxRecDepth 100000 in
theorem nameIs2_any (H : Heap) (nm : ByteArray) (b : Nat) (w : World) (hb : w.cell? ⟨b, 0, none⟩ = some (.string nm)) (hbl : b < w.heap.size) :
    Calls Try.prog 129 #[.agg (hcells H), ptr b] w fun e w' => e = .returned (.bool (H.name.toList == nm.toList)) ∧ Below w.heap.size w w' := by
  go_enter Try.func129, Try.ntmps129
  go_wp2
  go_ret
  exact ⟨rfl, (Below.refl _ w).alloc (Nat.le_refl _) _⟩
set_option maxHeartbeats 1000000 in
set_option maxRecDepth 100000 in
theorem nameIs3_any (H : Heap) (nm : ByteArray) (b : Nat) (w : World) (hb : w.cell? ⟨b, 0, none⟩ = some (.string nm)) (hbl : b < w.heap.size) :
    Calls Try.prog 128 #[.agg (hcells H), ptr b] w fun e w' => e = .returned (.bool (H.name.toList == nm.toList)) ∧ Below w.heap.size w w' := by
  go_enter Try.func128, Try.ntmps128
  go_wp2
  go_ret
  exact ⟨rfl, (Below.refl _ w).alloc (Nat.le_refl _) _⟩
set_option maxHeartbeats 1000000 in
set_option maxRecDepth 100000 in
theorem indexH2_any (B : Option Addr) (cb : Nat) (l : List Heap) (nm : ByteArray) (b : Nat) (w : World) (hb : w.cell? ⟨b, 0, none⟩ = some (.string nm)) (hl : RdHeaps w B l) :
    Calls Try.prog 66 #[.slice B l.length cb, .func (.func 129) #[] #[ptr b]] w fun e w' => e = .returned (.int .i64 (nameIdx nm l)) ∧ Below w.heap.size w w' := by
  have hll := hl.1.1
  have hbl : Hid (b < w.heap.size) := World.block_lt_of_cell? w _ hb
  replace hb := Lib.hid hb
  go_enter Try.func66, Try.ntmps66
  go_wp2
  go_loopw [8] (fun i wr => ∃ k : Nat, i = .int .i64 k ∧ k ≤ l.length ∧ Hid (∀ j (hj : j < l.length), j < k → l[j].name ≠ nm) ∧ Hid (Below w.heap.size w wr)) (fun i _ => l.length - (intOf i).toNat)
  case atStart => exact ⟨0, rfl, by omega, (fun j _ hj => absurd hj (Nat.not_lt_zero _)), Below.refl _ _⟩
  case round =>
    obtain ⟨k, rfl, hk, hall, hB⟩ := hrel
    by_cases hlt : k < l.length
    · obtain ⟨ad, hA, p0, p1, p2, p3, p4, p5, p6⟩ := (FlatRow.below hl.1 hB.out).at7 hlt rfl
      subst hA
      obtain ⟨H, hH⟩ : ∃ H, H = l[k] := ⟨_, rfl⟩
      rw [← hH] at p0 p1 p2 p3 p4 p5 p6
      replace hH := Lib.hid hH
      by_cases q : H.name = nm
      · have qb : (H.name.toList == nm.toList) = true := by rw [q]; simp
        replace qb := Lib.hid qb
        replace q := Lib.hid q
        go_wp2_with (go_at_call 129; refine (nameIs2_any H nm b _ ((hB.out.cell (p := ⟨b, 0, none⟩) hbl.out).trans hb.out) (Nat.lt_of_lt_of_le hbl.out hB.out.size)).mono ?_; rintro e w1 ⟨rfl, hb1⟩; rw [qb.out])
        go_ret
        exact ⟨by rw [nameIdx_stop hlt hall.out (by rw [← hH.out]; exact q.out)]; rfl, hB.out.trans (hb1.mono hB.out.size)⟩
      · have qb : (H.name.toList == nm.toList) = false := by rw [bytes_beq]; simpa using q
        replace qb := Lib.hid qb
        replace q := Lib.hid q
        go_wp2_with (go_at_call 129; refine (nameIs2_any H nm b _ ((hB.out.cell (p := ⟨b, 0, none⟩) hbl.out).trans hb.out) (Nat.lt_of_lt_of_le hbl.out hB.out.size)).mono ?_; rintro e w1 ⟨rfl, hb1⟩; rw [qb.out])
        refine ⟨⟨k + 1, by go_num, by omega, (fun j hj hjk => ?_), hB.out.trans (hb1.mono hB.out.size)⟩, by simp only [intOf]; omega⟩
        rcases Nat.lt_succ_iff_lt_or_eq.1 hjk with h | rfl
        · exact hall.out j hj h
        · rw [← hH.out]; exact q.out
    · go_wp2
      go_ret
      exact ⟨by rw [nameIdx_end (fun j hj => hall.out j hj (by omega))]; rfl, hB.out⟩

set_option maxHeartbeats 1000000 in
set_option maxRecDepth 100000 in
theorem indexH3_any (B : Option Addr) (cb : Nat) (l : List Heap) (nm : ByteArray) (b : Nat) (w : World) (hb : w.cell? ⟨b, 0, none⟩ = some (.string nm)) (hl : RdHeaps w B l) :
    Calls Try.prog 66 #[.slice B l.length cb, .func (.func 128) #[] #[ptr b]] w fun e w' => e = .returned (.int .i64 (nameIdx nm l)) ∧ Below w.heap.size w w' := by
  have hll := hl.1.1
  have hbl : Hid (b < w.heap.size) := World.block_lt_of_cell? w _ hb
  replace hb := Lib.hid hb
  go_enter Try.func66, Try.ntmps66
  go_wp2
  go_loopw [8] (fun i wr => ∃ k : Nat, i = .int .i64 k ∧ k ≤ l.length ∧ Hid (∀ j (hj : j < l.length), j < k → l[j].name ≠ nm) ∧ Hid (Below w.heap.size w wr)) (fun i _ => l.length - (intOf i).toNat)
  case atStart => exact ⟨0, rfl, by omega, (fun j _ hj => absurd hj (Nat.not_lt_zero _)), Below.refl _ _⟩
  case round =>
    obtain ⟨k, rfl, hk, hall, hB⟩ := hrel
    by_cases hlt : k < l.length
    · obtain ⟨ad, hA, p0, p1, p2, p3, p4, p5, p6⟩ := (FlatRow.below hl.1 hB.out).at7 hlt rfl
      subst hA
      obtain ⟨H, hH⟩ : ∃ H, H = l[k] := ⟨_, rfl⟩
      rw [← hH] at p0 p1 p2 p3 p4 p5 p6
      replace hH := Lib.hid hH
      by_cases q : H.name = nm
      · have qb : (H.name.toList == nm.toList) = true := by rw [q]; simp
        replace qb := Lib.hid qb
        replace q := Lib.hid q
        go_wp2_with (go_at_call 128; refine (nameIs3_any H nm b _ ((hB.out.cell (p := ⟨b, 0, none⟩) hbl.out).trans hb.out) (Nat.lt_of_lt_of_le hbl.out hB.out.size)).mono ?_; rintro e w1 ⟨rfl, hb1⟩; rw [qb.out])
        go_ret
        exact ⟨by rw [nameIdx_stop hlt hall.out (by rw [← hH.out]; exact q.out)]; rfl, hB.out.trans (hb1.mono hB.out.size)⟩
      · have qb : (H.name.toList == nm.toList) = false := by rw [bytes_beq]; simpa using q
        replace qb := Lib.hid qb
        replace q := Lib.hid q
        go_wp2_with (go_at_call 128; refine (nameIs3_any H nm b _ ((hB.out.cell (p := ⟨b, 0, none⟩) hbl.out).trans hb.out) (Nat.lt_of_lt_of_le hbl.out hB.out.size)).mono ?_; rintro e w1 ⟨rfl, hb1⟩; rw [qb.out])
        refine ⟨⟨k + 1, by go_num, by omega, (fun j hj hjk => ?_), hB.out.trans (hb1.mono hB.out.size)⟩, by simp only [intOf]; omega⟩
        rcases Nat.lt_succ_iff_lt_or_eq.1 hjk with h | rfl
        · exact hall.out j hj h
        · rw [← hH.out]; exact q.out
    · go_wp2
      go_ret
      exact ⟨by rw [nameIdx_end (fun j hj => hall.out j hj (by omega))]; rfl, hB.out⟩

set_option maxHeartbeats 1000000 in
set_option maxRecDepth 100000 in
theorem containsH_any (B : Option Addr) (cb : Nat) (l : List Heap) (nm : ByteArray) (b : Nat) (w : World) (hb : w.cell? ⟨b, 0, none⟩ = some (.string nm)) (hl : RdHeaps w B l) :
    Calls Try.prog 127 #[.slice B l.length cb, .func (.func 128) #[] #[ptr b]] w fun e w' => e = .returned (.bool (decide (0 ≤ nameIdx nm l))) ∧ Below w.heap.size w w' := by
  obtain ⟨i, hi⟩ : ∃ i, i = nameIdx nm l := ⟨_, rfl⟩
  have hc := indexH3_any B cb l nm b w hb hl
  rw [← hi] at hc
  rw [← hi]
  clear hi
  replace hc := Lib.hid hc
  go_enter Try.func127, Try.ntmps127
  go_wp2_with (go_at_call 66; refine hc.out.mono ?_; rintro e w1 ⟨rfl, hb1⟩)
  go_ret
  exact ⟨rfl, hb1⟩

/-- The number of the heap with a name, of which there is one. -/
theorem heap_ok (b : Nat) (hA : Option Addr) (hc : Nat) (l : List Heap) (nm : ByteArray) (w : World) (h5 : w.cell? ⟨b, 5, none⟩ = some (.slice hA l.length hc)) (hl : RdHeaps w hA l) (hi : 0 ≤ nameIdx nm l) :
    Calls Try.prog 122 #[ptr b, .string nm] w fun e w' => e = .returned (.int .i64 (nameIdx nm l)) ∧ Below w.heap.size w w' := by
  have hbl : b < w.heap.size := World.block_lt_of_cell? w _ h5
  obtain ⟨w1, hw1⟩ : ∃ w1, w1 = w.alloc (.cells #[.string nm] 9) := ⟨_, rfl⟩
  have hb0 : Below w.heap.size w w1 := by rw [hw1]; exact (Below.refl _ w).alloc (Nat.le_refl _) _
  have hn : w1.cell? ⟨w.heap.size, 0, none⟩ = some (.string nm) := by rw [hw1]; exact cell_of_one (heap_new _ _ _ rfl)
  have h51 : w1.cell? ⟨b, 5, none⟩ = some (.slice hA l.length hc) := (hb0.cell (p := ⟨b, 5, none⟩) hbl).trans h5
  have hcl := indexH2_any hA hc l nm w.heap.size w1 hn (hl.below hb0)
  obtain ⟨i, hii⟩ : ∃ i, i = nameIdx nm l := ⟨_, rfl⟩
  rw [← hii] at hcl hi ⊢
  have hd : (decide (0 ≤ i)) = true := decide_eq_true hi
  clear hii
  have hmf := makeFunc_run
  replace hcl := Lib.hid hcl
  go_enter Try.func122, Try.ntmps122
  go_wp2_with fail
  rw [← hw1]
  replace hw1 := Lib.hid hw1
  replace hb0 := Lib.hid hb0
  go_wp2_with (first | (go_at_call 66; refine hcl.out.mono ?_; rintro e w2 ⟨rfl, hb1⟩) | (go_at_call 75; refine (demand_ok _ _).mono ?_; rintro e w3 ⟨rfl, rfl⟩))
  go_ret
  exact ⟨rfl, hb0.out.trans (hb1.mono hb0.out.size)⟩
theorem heap_no (b : Nat) (hA : Option Addr) (hc : Nat) (l : List Heap) (nm : ByteArray) (w : World) (h5 : w.cell? ⟨b, 5, none⟩ = some (.slice hA l.length hc)) (hl : RdHeaps w hA l) (hi : nameIdx nm l < 0) :
    Calls Try.prog 122 #[ptr b, .string nm] w fun e w' => e = .panicked (errChain 7) ∧ Below w.heap.size w w' := by
  have hbl : b < w.heap.size := World.block_lt_of_cell? w _ h5
  obtain ⟨w1, hw1⟩ : ∃ w1, w1 = w.alloc (.cells #[.string nm] 9) := ⟨_, rfl⟩
  have hb0 : Below w.heap.size w w1 := by rw [hw1]; exact (Below.refl _ w).alloc (Nat.le_refl _) _
  have hn : w1.cell? ⟨w.heap.size, 0, none⟩ = some (.string nm) := by rw [hw1]; exact cell_of_one (heap_new _ _ _ rfl)
  have h51 : w1.cell? ⟨b, 5, none⟩ = some (.slice hA l.length hc) := (hb0.cell (p := ⟨b, 5, none⟩) hbl).trans h5
  have hcl := indexH2_any hA hc l nm w.heap.size w1 hn (hl.below hb0)
  obtain ⟨i, hii⟩ : ∃ i, i = nameIdx nm l := ⟨_, rfl⟩
  rw [← hii] at hcl hi
  have hd : (decide (0 ≤ i)) = false := decide_eq_false (by omega)
  clear hii
  have hmf := makeFunc_run
  replace hcl := Lib.hid hcl
  go_enter Try.func122, Try.ntmps122
  go_wp2_with fail
  rw [← hw1]
  replace hw1 := Lib.hid hw1
  replace hb0 := Lib.hid hb0
  go_wp2_with (first | (go_at_call 66; refine hcl.out.mono ?_; rintro e w2 ⟨rfl, hb1⟩) | (go_at_call 75; refine (demand_no _ _).mono ?_; rintro e w3 ⟨rfl, rfl⟩))
  exact ⟨rfl, rfl, hb0.out.trans (hb1.mono hb0.out.size)⟩
end Go.Proofs.Ytpgkhlpepckfgaa
end
section
namespace Go.Proofs.Ytpgkhlpepckfgaa
open Go.RowKit Go.Lib

set_option maxHeartbeats 1000000 in
set_option maxRecDepth 100000 in
theorem wide_any (s : Store) (w : World) (h : RdStore w s) :
    Calls Try.prog 22 #[storeVal s] w fun e w' => (∃ b : Bool, e = .returned (.bool b) ∧ (b = false → s.heaps.length ≤ 30 ∧ s.used.length ≤ 200 ∧ s.waste.length ≤ 200 ∧ s.last.length ≤ 30 ∧ s.given.length ≤ 30 ∧ ∀ x ∈ s.heaps, x.parts.length ≤ 200)) ∧ Below w.heap.size w w' := by
  have hl := h.heaps.1.1
  have hl2 := h.used.1
  have hl3 := h.waste.1
  have hl4 := h.last.1
  have hl5 := h.given.1
  have hS0 : Hid ((w.alloc (.cells (storeCells s) 43)).heap[w.heap.size]? = some (.cells (storeCells s) 43 (0, 0))) := heap_new _ _ _ rfl
  have hb0 : Below w.heap.size w (w.alloc (.cells (storeCells s) 43)) := (Below.refl _ w).alloc (Nat.le_refl _) _
  by_cases hA : s.heaps.length ≤ 30 ∧ s.used.length ≤ 200 ∧ s.waste.length ≤ 200 ∧ s.last.length ≤ 30 ∧ s.given.length ≤ 30
  · obtain ⟨q1, q2, q3, q4, q5⟩ := hA
    go_enter Try.func22, Try.ntmps22
    go_wp2
    go_loopw [3, 4] (fun v j wr => ∃ (x : Int) (k : Nat), v = .int .i64 x ∧ j = .int .i64 k ∧ k ≤ s.heaps.length ∧ Hid (∀ i (hi : i < s.heaps.length), i < k → s.heaps[i].parts.length ≤ 200) ∧ w.heap.size < wr.heap.size ∧ Hid (wr.heap[w.heap.size]? = some (.cells (storeCells s) 43 (0, 0))) ∧ Hid (Below w.heap.size w wr)) (fun _ j _ => s.heaps.length - (intOf j).toNat)
    case atStart => exact ⟨0, 0, rfl, rfl, by omega, (fun i hi h => by omega), by simp, hS0, (Below.refl _ w).alloc (Nat.le_refl _) _⟩
    case round =>
      obtain ⟨x, k, rfl, rfl, hk, hP, hsz, hS, hB⟩ := hrel
      obtain ⟨s0, s1, s2, s3, s4, s5⟩ := six_cells hS.out
      by_cases hlt : k < s.heaps.length
      · obtain ⟨ad, hA, p0, p1, p2, p3, p4, p5, p6⟩ := (FlatRow.below h.heaps.1 hB.out).at7 hlt rfl
        rw [hA] at s3
        have hpl := (h.heaps.2 _ (List.getElem_mem hlt)).1.1
        by_cases h2 : s.heaps[k].parts.length ≤ 200
        · go_wp2
          refine ⟨⟨_, k + 1, rfl, by go_num, by omega, (fun i hi h => ?_), hsz, hS, hB⟩, by simp only [intOf]; omega⟩
          by_cases hik : i = k
          · subst hik; exact h2
          · exact hP.out i hi (by omega)
        · go_wp2
          refine bodyPost_ret (v := .bool true) (by simp [results, Try.results22, go_sem]) rfl ?_
          first
            | exact ⟨⟨true, rfl, fun h => by cases h⟩, hB.out⟩
            | exact ⟨.inr rfl, hB.out⟩
      · have hke : k = s.heaps.length := by omega
        subst hke
        go_wp2
        refine bodyPost_ret (v := .bool (decide (2000 < x))) (by simp [results, Try.results22, go_sem]) rfl ⟨⟨_, rfl, fun _ => ⟨q1, q2, q3, q4, q5, fun y hy => ?_⟩⟩, hB.out⟩
        obtain ⟨i, hi, rfl⟩ := List.getElem_of_mem hy
        exact hP.out i hi hi
  · go_enter Try.func22, Try.ntmps22
    go_wp2
    all_goals first
      | (exfalso; omega)
      | (refine bodyPost_ret (v := .bool true) (by simp [results, Try.results22, go_sem]) rfl ?_
         first
           | exact ⟨⟨true, rfl, fun h => by cases h⟩, hb0⟩
           | exact ⟨.inr rfl, hb0⟩
           | (refine ⟨⟨_, rfl, fun h => ?_⟩, hb0⟩; simp at h; omega))
      | (refine bodyPost_ret (v := .bool _) (by simp [results, Try.results22, go_sem]; rfl) rfl ?_
         refine ⟨⟨_, rfl, fun h => ?_⟩, hb0⟩
         simp at h; omega)
      | (exact (0 : Nat))
end Go.Proofs.Ytpgkhlpepckfgaa
end
