/-
  What is told of a store's ledger after each chore: plain; and the ledger's row in memory.
-/
import Derived.Test.YtpgkhlpepckfgaaXm00
import Derived.Test.YtpgkhlpepckfgaaXs00
import Derived.Test.YtpgkhlpepckfgaaXs02
import Derived.Laws.MakeOwn
set_option linter.all false
set_option linter.unusedVariables false
set_option linter.unusedSimpArgs false
namespace Go.Proofs.Ytpgkhlpepckfgaa
open Go.RowKit Go.Lib

/-- What the law asks of a field's ledger: x behind the chore, y ahead of it. -/
structure BalF (x y : Cnt) (more : Int) : Prop where
  all : x.given = x.used + x.left + x.waste
  more : x.given = y.given + more
  used : y.used ≤ x.used
  waste : y.waste ≤ x.waste
  b0 : 0 ≤ x.used ∧ 0 ≤ x.left ∧ 0 ≤ x.waste ∧ x.given ≤ 100000
  b1 : 0 ≤ y.used ∧ 0 ≤ y.left ∧ 0 ≤ y.waste ∧ y.given ≤ 100000 ∧ 0 ≤ y.given
theorem cnt_bounds {pl : List Plot} {s : Store} (h : OkS pl s) {i : Nat} (hi : i < pl.length) : (cntAt s i).given = (cntAt s i).used + (cntAt s i).left + (cntAt s i).waste ∧ 0 ≤ (cntAt s i).used ∧ 0 ≤ (cntAt s i).left ∧ 0 ≤ (cntAt s i).waste ∧ (cntAt s i).given ≤ 100000 := by
  have hg := h.givens i hi
  have h1 := h.used.2.1.of i
  have h2 := h.waste.2.1.of i
  have hL := leftL_le (l := s.heaps) i fun x hx p hp => by have := (h.heaps x hx).parts.2.1 p hp; omega
  have h4 := (ofL_le (l := s.used) i fun p hp => by have := h.used.2.1 p hp; omega).2
  have h5 := (ofL_le (l := s.waste) i fun p hp => by have := h.waste.2.1 p hp; omega).2
  have ht := h.total
  unfold totalS at ht
  unfold cntAt
  dsimp only
  omega
theorem bal_law {pl : List Plot} {dry : Int} {u : Store} {a : Chore} (h0 : (doP pl dry u a).1 = 0) {i : Nat} (hi : i < pl.length) : BalF (cntAt (doP pl dry u a).2 i) (cntAt u i) (moreP a i) := by
  obtain ⟨h1, h2, h3⟩ := do_ok h0
  obtain ⟨c1, c2, c3, c4, c5⟩ := cnt_bounds h3.ok hi
  obtain ⟨d1, d2, d3, d4, d5⟩ := cnt_bounds (check_ok h1) hi
  exact ⟨c1, h3.given i hi, h3.used i, h3.waste i, ⟨c2, c3, c4, c5⟩, ⟨d2, d3, d4, d5, by omega⟩⟩

theorem cntAt_same {s t : Store} (h : SameC s t) (i : Nat) : cntAt s i = cntAt t i := by
  unfold cntAt
  rw [h.given, h.used, h.waste, ← leftL_bare s.heaps, h.heaps, leftL_bare]
theorem cntsL_same {s t : Store} (h : SameC s t) (n : Nat) : cntsL s n = cntsL t n := by
  unfold cntsL
  exact List.map_congr_left fun i _ => cntAt_same h i
theorem new_cnt {pl : List Plot} {dry : Int} (h : checkI pl dry = 0) {i : Nat} (hi : i < pl.length) : cntAt (newS pl dry) i = ⟨0, 0, 0, 0⟩ := by
  unfold newS cntAt
  rw [if_pos h]
  simp [List.getD_eq_getElem?_getD, hi, ofL, leftL]
theorem leftL_bound {l : List Heap} (m : Nat) (k : Int) (h : ∀ x ∈ l, ∀ p ∈ x.parts, 0 ≤ p.loads) : 0 ≤ leftL (l.take m) k ∧ leftL (l.take m) k ≤ leftL l k := by
  have h1 := leftL_le (l := l.take m) k fun x hx => h x (List.mem_of_mem_take hx)
  have h2 := leftL_le (l := l.drop m) k fun x hx => h x (List.mem_of_mem_drop hx)
  have e : leftL l k = leftL (l.take m) k + leftL (l.drop m) k := by
    have : leftL (l.take m ++ l.drop m) k = leftL (l.take m) k + leftL (l.drop m) k := by unfold leftL; rw [List.map_append, List.sum_append]
    rwa [List.take_append_drop] at this
  omega
theorem four_cells {w : World} {b : Nat} {v0 v1 v2 v3 : Value} {t : TypeId} (h : w.heap[b]? = some (.cells #[v0, v1, v2, v3] t (0, 0))) : w.cell? ⟨b, 0, none⟩ = some v0 ∧ w.cell? ⟨b, 1, none⟩ = some v1 ∧ w.cell? ⟨b, 2, none⟩ = some v2 ∧ w.cell? ⟨b, 3, none⟩ = some v3 := by
  refine ⟨?_, ?_, ?_, ?_⟩ <;> simp [World.cell?, h]
theorem make_cnts (n : Nat) (hn : n ≤ 1000000) (w : World) : (Instr.makeSlice 51 (.int .i64 (n : Int)) (.int .i64 (n : Int))).run Try.prog w = .ok (.slice (some ⟨w.heap.size, 0, none⟩) n n) (w.alloc (.cells (madeCells #[.int .i64 0, .int .i64 0, .int .i64 0, .int .i64 0] (n * 4)) 55)) := by
  obtain ⟨i, hi, hzz⟩ := Option.map_eq_some_iff.1 info55
  simp only [Prod.mk.injEq] at hzz
  obtain ⟨hz, hs, hb⟩ := hzz
  have := run_make w 51 55 i _ Try.underlying51 hi hz .i64 .i64 (n : Int) (n : Int) (by omega) (Int.le_refl _) (by rw [hb]; omega) (by omega)
  rw [hs, Int.toNat_natCast] at this
  exact this
theorem zero_cnts {W : World} {g n : Nat} {s : Store} (hg : W.heap[g]? = some (.cells (madeCells #[.int .i64 0, .int .i64 0, .int .i64 0, .int .i64 0] (n * 4)) 55 (0, 0))) (hn : n ≤ 1000000) (hz : ∀ i, i < n → cntAt s i = ⟨0, 0, 0, 0⟩) : RdCnts W (some ⟨g, 0, none⟩) (cntsL s n) := by
  refine ⟨by rw [cntsL_len]; omega, fun i x hx => ⟨_, rfl, fun j v hv => ?_⟩⟩
  have hin : i < n := by have := (List.getElem?_eq_some_iff.1 hx).1; rw [cntsL_len] at this; exact this
  have hxz : x = ⟨0, 0, 0, 0⟩ := by
    rw [← hz i hin]
    unfold cntsL at hx
    rw [List.getElem?_map, List.getElem?_range hin] at hx
    simpa using hx.symm
  subst hxz
  have hj : j < 4 := by have := (List.getElem?_eq_some_iff.1 hv).1; simpa [encCnt] using this
  have hv0 : v = .int .i64 0 := by
    have : j = 0 ∨ j = 1 ∨ j = 2 ∨ j = 3 := by omega
    rcases this with rfl | rfl | rfl | rfl <;> simpa [encCnt] using hv.symm
  subst hv0
  rw [lit_add]
  have hlt : i * 4 + j < n * 4 := by omega
  have hm : (i * 4 + j) % 4 = j := by omega
  have hcell : (madeCells #[.int .i64 0, .int .i64 0, .int .i64 0, .int .i64 0] (n * 4))[i * 4 + j]? = some (Value.int .i64 0) := by
    unfold madeCells
    have hr : (Array.range (n * 4))[i * 4 + j]? = some (i * 4 + j) := by
      rw [Array.getElem?_eq_some_iff]
      exact ⟨by simpa using hlt, by simp⟩
    rw [Array.getElem?_map, hr]
    show some ((#[Value.int .i64 0, .int .i64 0, .int .i64 0, .int .i64 0] : Array Value)[(i * 4 + j) % 4]!) = _
    rw [hm]
    have : j = 0 ∨ j = 1 ∨ j = 2 ∨ j = 3 := by omega
    rcases this with rfl | rfl | rfl | rfl <;> rfl
  simp only [World.cell?, hg, hcell]
  rfl
theorem RdCnts.at_ {W : World} {A : Option Addr} {s : Store} {n j : Nat} (h : RdCnts W A (cntsL s n)) (hj : j < n) : ∃ ad, A = some ad ∧ W.cell? (ad.add (j * 4)) = some (.int .i64 (cntAt s j).given) ∧ W.cell? ⟨(ad.add (j * 4)).block, (ad.add (j * 4)).off + 1, none⟩ = some (.int .i64 (cntAt s j).used) ∧
    W.cell? ⟨(ad.add (j * 4)).block, (ad.add (j * 4)).off + 2, none⟩ = some (.int .i64 (cntAt s j).left) ∧ W.cell? ⟨(ad.add (j * 4)).block, (ad.add (j * 4)).off + 3, none⟩ = some (.int .i64 (cntAt s j).waste) := by
  have hg : (cntsL s n)[j]? = some (cntAt s j) := by unfold cntsL; rw [List.getElem?_map, List.getElem?_range hj]; rfl
  obtain ⟨ad, e, hc⟩ := h.2 j _ hg
  refine ⟨ad, e, hc 0 _ rfl, ?_, ?_, ?_⟩
  · rw [← addr_field _ _ _ (by omega)]; exact hc _ _ rfl
  · rw [← addr_field _ _ _ (by omega)]; exact hc _ _ rfl
  · rw [← addr_field _ _ _ (by omega)]; exact hc _ _ rfl
/-- A ledger's row reads the same when a store's variable is written. -/
theorem RdCnts.over {W W' : World} {A : Option Addr} {l : List Cnt} {t : Store} {b : Nat} (h : RdCnts W A l) (h6 : W.heap[b]? = some (.cells (storeCells t) 43 (0, 0))) (hk : ∀ k, k ≠ b → W'.heap[k]? = W.heap[k]?) : RdCnts W' A l := by
  refine FlatRow.keep h fun k hl e => hk k ?_
  obtain ⟨x, l', rfl⟩ := List.exists_cons_of_ne_nil hl
  obtain ⟨ad, e1, hc⟩ := h.2 0 x rfl
  have h0 := hc 0 _ rfl
  have h1 := hc 1 _ rfl
  rintro rfl
  obtain ⟨bk, o, sp⟩ := ad
  have : bk = k := by rw [e1] at e; simpa [blk] using e
  subst this
  have hsp : sp = none := by
    cases sp with
    | none => rfl
    | some q =>
      simp only [Nat.zero_mul, Nat.add_zero, Addr.add, if_pos] at h0
      unfold World.cell? at h0
      split at h0 <;> simp at h0
  subst hsp
  have e0 : W.cell? ⟨bk, o, none⟩ = some (.int .i64 x.given) := by simpa [Addr.add] using h0
  have e2 : W.cell? ⟨bk, o + 1, none⟩ = some (.int .i64 x.used) := by simpa [Addr.add] using h1
  simp only [World.cell?, h6] at e0 e2
  rcases o with _ | _ | _ | _ | _ | _ | o <;> simp at e0 e2
theorem RdChores.cells9k {W : World} {ad : Addr} {l : List Chore} (h : RdChores W (some ad) l) {k : Nat} (hk : k < l.length) {a : Chore} (ha : a = l[k]) :
    W.cell? (ad.add (k * 9)) = some (.int .i64 a.kind) ∧ W.cell? ⟨(ad.add (k * 9)).block, (ad.add (k * 9)).off + 1, none⟩ = some (.int .i64 a.plot) ∧ W.cell? ⟨(ad.add (k * 9)).block, (ad.add (k * 9)).off + 2, none⟩ = some (.int .i64 a.loads) ∧
    W.cell? ⟨(ad.add (k * 9)).block, (ad.add (k * 9)).off + 3, none⟩ = some (.string a.name) ∧ W.cell? ⟨(ad.add (k * 9)).block, (ad.add (k * 9)).off + 4, none⟩ = some (.string a.other) ∧ W.cell? ⟨(ad.add (k * 9)).block, (ad.add (k * 9)).off + 5, none⟩ = some (.int .i64 a.days) ∧
    W.cell? ⟨(ad.add (k * 9)).block, (ad.add (k * 9)).off + 6, none⟩ = some (.int .i64 a.per) ∧ W.cell? ⟨(ad.add (k * 9)).block, (ad.add (k * 9)).off + 7, none⟩ = some (.int .i64 a.rain.lo) ∧ W.cell? ⟨(ad.add (k * 9)).block, (ad.add (k * 9)).off + 8, none⟩ = some (.int .i64 a.rain.hi) := by
  subst ha
  obtain ⟨ad', e, h0⟩ := h.1.at9 hk rfl
  cases e
  exact h0
end Go.Proofs.Ytpgkhlpepckfgaa
