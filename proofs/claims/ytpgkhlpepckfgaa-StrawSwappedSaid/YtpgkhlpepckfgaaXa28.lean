/-
  The results of straw.Do, and its door.
-/
import Derived.Test.YtpgkhlpepckfgaaXa26
import Derived.Test.YtpgkhlpepckfgaaXa27
import Derived.Laws.Rows
set_option linter.all false
set_option linter.unusedVariables false
set_option linter.unusedSimpArgs false
namespace Go.Proofs.Ytpgkhlpepckfgaa
open Go.RowKit Go.Lib

theorem results_do {tmps : Array Value} {w : World} {b6 b7 : Nat} {a0 a1 a2 a3 a4 a5 : Value} {x : Int} (h6 : tmps.getD 6 undef = ptr b6) (h7 : tmps.getD 7 undef = ptr b7)
    (g6 : w.heap[b6]? = some (.cells #[a0, a1, a2, a3, a4, a5] 43 (0, 0))) (g7 : w.heap[b7]? = some (.cells #[.int .i64 x] 30 (0, 0))) :
    (results Try.f35 tmps).run Try.prog w = .ok (.tuple #[.agg #[a0, a1, a2, a3, a4, a5], .int .i64 x]) w := by
  have h6' : tmps[6]?.getD undef = .pointer (some ⟨b6, 0, none⟩) := by simpa using h6
  have h7' : tmps[7]?.getD undef = .pointer (some ⟨b7, 0, none⟩) := by simpa using h7
  have c7 : w.cell? ⟨b7, 0, none⟩ = some (.int .i64 x) := cell_of_one g7
  obtain ⟨c0, c1, c2, c3, c4, c5⟩ := cells6 g6
  simp [results, Try.results35, h6', h7', asAddr, go_sem, c7, c0, c1, c2, c3, c4, c5]
abbrev putW (W : World) (b6 b7 : Nat) (v0 v1 v2 v3 v4 v5 y : Value) : World := ((((((W.setCell ⟨b6, 0, none⟩ v0).setCell ⟨b6, 1, none⟩ v1).setCell ⟨b6, 2, none⟩ v2).setCell ⟨b6, 3, none⟩ v3).setCell ⟨b6, 4, none⟩ v4).setCell ⟨b6, 5, none⟩ v5).setCell ⟨b7, 0, none⟩ y
theorem put_cells {W : World} {b6 b7 : Nat} {a0 a1 a2 a3 a4 a5 x : Value} (v0 v1 v2 v3 v4 v5 y : Value) (h6 : W.heap[b6]? = some (.cells #[a0, a1, a2, a3, a4, a5] 43 (0, 0))) (h7 : W.heap[b7]? = some (.cells #[x] 30 (0, 0))) (hne : b6 ≠ b7) :
    (putW W b6 b7 v0 v1 v2 v3 v4 v5 y).heap[b6]? = some (.cells #[v0, v1, v2, v3, v4, v5] 43 (0, 0)) ∧ (putW W b6 b7 v0 v1 v2 v3 v4 v5 y).heap[b7]? = some (.cells #[y] 30 (0, 0)) := by
  have h0 := set_cells (o := 0) h6 v0
  have h1 := set_cells (o := 1) h0 v1
  have h2 := set_cells (o := 2) h1 v2
  have h3 := set_cells (o := 3) h2 v3
  have h4 := set_cells (o := 4) h3 v4
  have h5 := set_cells (o := 5) h4 v5
  refine ⟨(Below.heap_setCell _ _ _ _ hne).trans h5, ?_⟩
  have g0 : ∀ (V : World) (j : Nat) (v : Value), (V.setCell ⟨b6, j, none⟩ v).heap[b7]? = V.heap[b7]? := fun V j v => Below.heap_setCell _ _ _ _ (Ne.symm hne)
  refine set_cells (o := 0) (cs := #[x]) ?_ y
  rw [g0, g0, g0, g0, g0, g0]
  exact h7
theorem put_below {w W : World} {B b6 b7 : Nat} (v0 v1 v2 v3 v4 v5 y : Value) (h : Below B w W) (h6 : B ≤ b6) (h7 : B ≤ b7) : Below B w (putW W b6 b7 v0 v1 v2 v3 v4 v5 y) :=
  ((((((h.setCell (p := ⟨b6, 0, none⟩) h6 _).setCell (p := ⟨b6, 1, none⟩) h6 _).setCell (p := ⟨b6, 2, none⟩) h6 _).setCell (p := ⟨b6, 3, none⟩) h6 _).setCell (p := ⟨b6, 4, none⟩) h6 _).setCell (p := ⟨b6, 5, none⟩) h6 _).setCell (p := ⟨b7, 0, none⟩) h7 _
theorem put_other {W : World} {b6 b7 : Nat} (v0 v1 v2 v3 v4 v5 y : Value) {k : Nat} (h6 : k ≠ b6) (h7 : k ≠ b7) : (putW W b6 b7 v0 v1 v2 v3 v4 v5 y).heap[k]? = W.heap[k]? := by
  unfold putW
  rw [Below.heap_setCell _ _ _ _ h7, Below.heap_setCell _ _ _ _ h6, Below.heap_setCell _ _ _ _ h6, Below.heap_setCell _ _ _ _ h6, Below.heap_setCell _ _ _ _ h6, Below.heap_setCell _ _ _ _ h6, Below.heap_setCell _ _ _ _ h6]
theorem FlatRow.keep {α : Type} {enc : α → List Value} {sz : Nat} {w w1 : World} {A : Option Addr} {l : List α} (h : FlatRow enc sz w A l) (hs : ∀ k, l ≠ [] → blk A = some k → w1.heap[k]? = w.heap[k]?) : FlatRow enc sz w1 A l :=
  ⟨h.1, fun i x hx => by
    obtain ⟨ad, e, hc⟩ := h.2 i x hx
    refine ⟨ad, e, fun j v hv => ?_⟩
    have hl : l ≠ [] := fun e0 => by subst e0; simp at hx
    have h1 := hs ad.block hl (by rw [e]; rfl)
    exact (World.cell?_of_block (by rw [add_block]; exact h1)).trans (hc j v hv)⟩
/-- Parts lie neither in a store's block nor in a number's. -/
theorem RdParts.two {W : World} {A : Option Addr} {l : List Portion} (h : RdParts W A l) (hl : l ≠ []) {k : Nat} (hk : blk A = some k) : ∃ o a b, W.cell? ⟨k, o, none⟩ = some (.int .i64 a) ∧ W.cell? ⟨k, o + 1, none⟩ = some (.int .i64 b) := by
  obtain ⟨x, l', rfl⟩ := List.exists_cons_of_ne_nil hl
  obtain ⟨ad, e, hc⟩ := h.2 0 x rfl
  have h0 := hc 0 _ rfl
  have h1 := hc 1 _ rfl
  obtain ⟨bk, o, sp⟩ := ad
  have : bk = k := by rw [e] at hk; simpa [blk] using hk
  subst this
  have hsp : sp = none := by
    cases sp with
    | none => rfl
    | some q =>
      simp only [Nat.zero_mul, Nat.add_zero, Addr.add, if_pos] at h0
      unfold World.cell? at h0
      split at h0 <;> simp at h0
  subst hsp
  refine ⟨o, x.plot, x.loads, ?_, ?_⟩
  · simpa [Addr.add] using h0
  · simpa [Addr.add] using h1
theorem RdParts.apart {W : World} {A : Option Addr} {l : List Portion} (h : RdParts W A l) (hl : l ≠ []) {k b6 b7 : Nat} {y z : Int} {c1 c2 c3 c4 c5 : Option Addr × Nat × Nat} (hk : blk A = some k)
    (h6 : W.heap[b6]? = some (.cells #[.int .i64 y, .slice c1.1 c1.2.1 c1.2.2, .slice c2.1 c2.2.1 c2.2.2, .slice c3.1 c3.2.1 c3.2.2, .slice c4.1 c4.2.1 c4.2.2, .slice c5.1 c5.2.1 c5.2.2] 43 (0, 0))) (h7 : W.heap[b7]? = some (.cells #[.int .i64 z] 30 (0, 0))) : k ≠ b6 ∧ k ≠ b7 := by
  obtain ⟨o, a, b, e0, e1⟩ := h.two hl hk
  constructor
  · rintro rfl
    simp only [World.cell?, h6] at e0 e1
    rcases o with _ | _ | _ | _ | _ | _ | o <;> simp at e0 e1
  · rintro rfl
    simp only [World.cell?, h7] at e0 e1
    simp at e1
/-- A store whose rows lie behind the results' blocks reads the same when these are written. -/
theorem Rows.put {B : Nat} {x : Option Nat} {t : Store} {W : World} (h : Rows B x t W) {b6 b7 : Nat} (hb6 : b6 < B) (hb7 : b7 < B) {y z : Int} {c1 c2 c3 c4 c5 : Option Addr × Nat × Nat}
    (h6 : W.heap[b6]? = some (.cells #[.int .i64 y, .slice c1.1 c1.2.1 c1.2.2, .slice c2.1 c2.2.1 c2.2.2, .slice c3.1 c3.2.1 c3.2.2, .slice c4.1 c4.2.1 c4.2.2, .slice c5.1 c5.2.1 c5.2.2] 43 (0, 0))) (h7 : W.heap[b7]? = some (.cells #[.int .i64 z] 30 (0, 0)))
    (v0 v1 v2 v3 v4 v5 u : Value) : RdStore (putW W b6 b7 v0 v1 v2 v3 v4 v5 u) t := by
  have hs := h.store
  have hp : ∀ {A : Option Addr} {l : List Portion}, RdParts W A l → RdParts (putW W b6 b7 v0 v1 v2 v3 v4 v5 u) A l := fun hr => hr.keep fun k hl hk => by
    obtain ⟨e6, e7⟩ := hr.apart hl hk h6 h7
    exact put_other _ _ _ _ _ _ _ e6 e7
  refine ⟨FlatRow.keep hs.last fun k _ hk => ?_, FlatRow.keep hs.given fun k _ hk => ?_, ⟨FlatRow.keep hs.heaps.1 fun k _ hk => ?_, fun g hg => ⟨hp (hs.heaps.2 g hg).1, (hs.heaps.2 g hg).2⟩⟩, hp hs.used, hp hs.waste⟩
  · have := (h.lastLt hk).1; exact put_other _ _ _ _ _ _ _ (by omega) (by omega)
  · have := (h.givenLt hk).1; exact put_other _ _ _ _ _ _ _ (by omega) (by omega)
  · have := (h.heapsLt hk).1; exact put_other _ _ _ _ _ _ _ (by omega) (by omega)
theorem wrong_cells {W : World} {b6 b7 : Nat} {a0 a1 a2 a3 a4 a5 x : Value} (e : Int) (h6 : W.heap[b6]? = some (.cells #[a0, a1, a2, a3, a4, a5] 43 (0, 0))) (h7 : W.heap[b7]? = some (.cells #[x] 30 (0, 0))) (hne : b6 ≠ b7) :
    (wrongW W b6 b7 e).heap[b6]? = some (.cells #[.int .i64 0, .slice none 0 0, .slice none 0 0, .slice none 0 0, .slice none 0 0, .slice none 0 0] 43 (0, 0)) ∧ (wrongW W b6 b7 e).heap[b7]? = some (.cells #[.int .i64 e] 30 (0, 0)) := put_cells _ _ _ _ _ _ _ h6 h7 hne
theorem wrong_below {w W : World} {B b6 b7 : Nat} (e : Int) (h : Below B w W) (h6 : B ≤ b6) (h7 : B ≤ b7) : Below B w (wrongW W b6 b7 e) := put_below _ _ _ _ _ _ _ h h6 h7
theorem leaves_put {P : Program} {fn : Func} {t t' : Array Value} {R : Ending → World → Prop} (he : results fn t = results fn t') : ∀ (ds : List Deferred) (u : FrameMode) (w : World), Leaves P fn t R ds u w → Leaves P fn t' R ds u w
  | [], .returning, w, h => by
    obtain ⟨v, hr, hR⟩ := h
    exact ⟨v, he ▸ hr, hR⟩
  | [], .panicking _, _, h => h
  | [], .run, _, h => h
  | d :: ds, u, w, h => by
    obtain ⟨hu, fv, cap, f, args, h1, h2, h3⟩ := h
    refine ⟨hu, fv, cap, f, args, h1, h2, h3.mono fun e u' w' hR => ?_⟩
    cases e with
    | returned v => exact leaves_put he ds _ _ hR
    | panicked c => exact leaves_put he ds _ _ hR
    | outgrown => exact hR
theorem results35_put (t : Array Value) (i : Nat) (v : Value) (h6 : i ≠ 6) (h7 : i ≠ 7) : results Try.f35 (t.setIfInBounds i v) = results Try.f35 t := by
  have e6 : (t.setIfInBounds i v)[6]?.getD undef = t[6]?.getD undef := by rw [Array.getElem?_setIfInBounds_ne h6]
  have e7 : (t.setIfInBounds i v)[7]?.getD undef = t[7]?.getD undef := by rw [Array.getElem?_setIfInBounds_ne h7]
  simp [results, Try.results35, e6, e7]
theorem door_put {R : Ending → World → Prop} {c : List PanicEntry} {a : Act} {w : World} {i : Nat} {v : Value} (h6 : i ≠ 6) (h7 : i ≠ 7) (h : bodyPostD Try.prog Try.f35 R (.panic c) (a.put (some i) v) w) : bodyPostD Try.prog Try.f35 R (.panic c) a w :=
  leaves_put (results35_put a.tmps i v h6 h7) _ _ _ h
theorem cells2 {w : World} {b : Nat} {v0 v1 : Value} {t : TypeId} (h : w.heap[b]? = some (.cells #[v0, v1] t (0, 0))) : w.cell? ⟨b, 0, none⟩ = some v0 ∧ w.cell? ⟨b, 1, none⟩ = some v1 := by constructor <;> simp [World.cell?, h]
/-- What a call of Do has laid: the farm, the store, the chore, and the two results. -/
structure DX (w : World) (A : Option Addr) (c : Nat) (pl : List Plot) (dry : Int) (s : Store) (a : Chore) (W : World) : Prop where
  below : Below w.heap.size w W
  farm : W.heap[w.heap.size]? = some (.cells #[.slice A pl.length c, .int .i64 dry] 24 (0, 0))
  store : W.heap[w.heap.size + 1]? = some (.cells (storeCells s) 43 (0, 0))
  chore : W.heap[w.heap.size + 1 + 1]? = some (.cells (choreCells a) 64 (0, 0))
  after : W.heap[w.heap.size + 1 + 1 + 1]? = some (.cells #[.int .i64 0, .slice none 0 0, .slice none 0 0, .slice none 0 0, .slice none 0 0, .slice none 0 0] 43 (0, 0))
  err : W.heap[w.heap.size + 1 + 1 + 1 + 1]? = some (.cells #[.int .i64 0] 30 (0, 0))
  size : w.heap.size + 5 ≤ W.heap.size
abbrev DXw (w : World) (A : Option Addr) (c : Nat) (pl : List Plot) (dry : Int) (s : Store) (a : Chore) : World :=
  ((((w.alloc (.cells #[.slice A pl.length c, .int .i64 dry] 24)).alloc (.cells (storeCells s) 43)).alloc (.cells (choreCells a) 64)).alloc (.cells #[.int .i64 0, .slice none 0 0, .slice none 0 0, .slice none 0 0, .slice none 0 0, .slice none 0 0] 43)).alloc (.cells #[.int .i64 0] 30)
section
variable {w : World} {A : Option Addr} {c : Nat} {pl : List Plot} {dry : Int} {s : Store} {a : Chore} {W W' : World}
theorem DX.make : DX w A c pl dry s a (DXw w A c pl dry s a) := by
  refine ⟨((((((Below.refl _ w).alloc (Nat.le_refl _) _).alloc (by simp) _).alloc (by simp; omega) _).alloc (by simp; omega) _).alloc (by simp; omega) _), ?_, ?_, ?_, ?_, ?_, by simp⟩
  · exact heap_old _ _ _ _ (heap_old _ _ _ _ (heap_old _ _ _ _ (heap_old _ _ _ _ (heap_new _ _ _ rfl))))
  · exact heap_old _ _ _ _ (heap_old _ _ _ _ (heap_old _ _ _ _ (heap_new _ _ _ (by simp))))
  · exact heap_old _ _ _ _ (heap_old _ _ _ _ (heap_new _ _ _ (by simp)))
  · exact heap_old _ _ _ _ (heap_new _ _ _ (by simp))
  · exact heap_new _ _ _ (by simp)
theorem DX.later (h : DX w A c pl dry s a W) (hb : Below W.heap.size W W') : DX w A c pl dry s a W' := by
  have hz := h.size
  exact ⟨h.below.trans (hb.mono h.below.size), (hb.block _ (by omega)).trans h.farm, (hb.block _ (by omega)).trans h.store, (hb.block _ (by omega)).trans h.chore, (hb.block _ (by omega)).trans h.after, (hb.block _ (by omega)).trans h.err, Nat.le_trans hz hb.size⟩
theorem DX.kept (h : DX w A c pl dry s a W) (hb : Below w.heap.size w W') (hz : W.heap.size ≤ W'.heap.size) (hk : ∀ k, k < w.heap.size + 5 → W'.heap[k]? = W.heap[k]?) : DX w A c pl dry s a W' :=
  ⟨hb, (hk _ (by omega)).trans h.farm, (hk _ (by omega)).trans h.store, (hk _ (by omega)).trans h.chore, (hk _ (by omega)).trans h.after, (hk _ (by omega)).trans h.err, Nat.le_trans h.size hz⟩
theorem DX.set (h : DX w A c pl dry s a W) {g : Nat} (hg : w.heap.size + 5 ≤ g) (j : Nat) (u : Value) : DX w A c pl dry s a (W.setCell ⟨g, j, none⟩ u) :=
  h.kept (h.below.setCell (p := ⟨g, j, none⟩) (by show _ ≤ g; omega) _) (by rw [set_size]; exact Nat.le_refl _) fun k hk => Below.heap_setCell _ _ _ _ (by show k ≠ g; omega)
abbrev catchOf (w : World) : List Deferred := [{ target := .fn (.func 73) #[ptr (w.heap.size + 1 + 1 + 1), ptr (w.heap.size + 1 + 1 + 1 + 1)], args := #[] }]
/-- At the door, behind a panic. -/
theorem door_wrong {tmps : Array Value} {R : Ending → World → Prop} {e : Int} (h6 : tmps.getD 6 undef = ptr (w.heap.size + 1 + 1 + 1)) (h7 : tmps.getD 7 undef = ptr (w.heap.size + 1 + 1 + 1 + 1)) (hX : DX w A c pl dry s a W)
    (hR : ∀ w', Below w.heap.size w w' → R (.returned (.tuple #[storeVal noStore, .int .i64 e])) w') : bodyPostD Try.prog Try.f35 R (.panic (errChain e)) { tmps := tmps, defers := catchOf w } W := by
  show Leaves Try.prog Try.f35 tmps R (catchOf w) (.panicking (errChain e)) W
  refine leaves_cons (f := 73) (args := #[ptr (w.heap.size + 1 + 1 + 1), ptr (w.heap.size + 1 + 1 + 1 + 1)]) (by simp) (by simp [go_sem]) ?_
  refine (catch_panics _ _ e W hX.after hX.err (by omega)).mono ?_
  rintro x u' w' ⟨rfl, hs, rfl⟩
  show Leaves Try.prog Try.f35 tmps R [] (settle u') _
  rw [hs]
  obtain ⟨q6, q7⟩ := wrong_cells e hX.after hX.err (by omega)
  exact ⟨_, results_do h6 h7 q6 q7, hR _ (wrong_below e hX.below (by omega) (by omega))⟩
/-- At the door, behind a return. -/
theorem door_right {tmps : Array Value} {R : Ending → World → Prop} {t : Store} (h6 : tmps.getD 6 undef = ptr (w.heap.size + 1 + 1 + 1)) (h7 : tmps.getD 7 undef = ptr (w.heap.size + 1 + 1 + 1 + 1))
    (g6 : W.heap[w.heap.size + 1 + 1 + 1]? = some (.cells (storeCells t) 43 (0, 0))) (g7 : W.heap[w.heap.size + 1 + 1 + 1 + 1]? = some (.cells #[.int .i64 0] 30 (0, 0)))
    (hR : R (.returned (.tuple #[storeVal t, .int .i64 0])) W) : bodyPostD Try.prog Try.f35 R .ret { tmps := tmps, defers := catchOf w } W := by
  show Leaves Try.prog Try.f35 tmps R (catchOf w) .returning W
  refine leaves_cons (f := 73) (args := #[ptr (w.heap.size + 1 + 1 + 1), ptr (w.heap.size + 1 + 1 + 1 + 1)]) (by simp) (by simp [go_sem]) ?_
  refine (catch_idle _ _ W).mono ?_
  rintro x u' w' ⟨rfl, rfl, rfl⟩
  show Leaves Try.prog Try.f35 tmps R [] (settle .returning) _
  exact ⟨_, results_do h6 h7 g6 g7, hR⟩
end
end Go.Proofs.Ytpgkhlpepckfgaa
