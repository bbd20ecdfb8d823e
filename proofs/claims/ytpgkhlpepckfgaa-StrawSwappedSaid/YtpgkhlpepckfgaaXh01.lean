/-
  An argument that came in, opened: farms, needs, rows of numbers as the walks read them.
-/
import Derived.Test.YtpgkhlpepckfgaaXa04
import Derived.Below
import Derived.Carry
import Derived.ChangeMaps5
import Derived.Deep.Slices
import Derived.Lib.SmallJoins
import Derived.ProofKit
import Derived.SizedLaws
set_option linter.all false
set_option linter.unusedVariables false
set_option linter.unusedSimpArgs false
namespace Go.Proofs.Ytpgkhlpepckfgaa
open Go.RowKit Go.Lib Go.ChangeShapes Go.WideShapes

section
variable {H : Type} {enc : TypeId × Value → H} {w : World} {base : Nat} {spare : Nat → Bool} {held : Bool}

theorem weightsAll_mem {P : Program} {e : TypeId} : ∀ {l : List (DataW H)} {d : DataW H}, d ∈ l → ∀ n ∈ d.weights P e, n ∈ DataW.weightsAll P e l
  | d' :: r, d, hd, n, hn => by
    simp only [DataW.weightsAll, List.mem_append]
    rcases List.mem_cons.1 hd with rfl | h
    · exact Or.inl hn
    · exact Or.inr (weightsAll_mem h n hn)

/-- All that a reading holds is no longer than what a machine holds. -/
def Small (t : TypeId) (d : DataW H) : Prop := ∀ m ∈ d.weights Try.prog t, m ≤ 140737488351232

theorem small_of {ts : List TypeId} {ds : List (DataW H)} (h : (DataW.weightsEach Try.prog ts ds).all (· ≤ reachBytes) = true) {j : Nat} {t : TypeId} {d : DataW H} (ht : ts[j]? = some t) (hd : ds[j]? = some d) : Small t d := fun m hm =>
  of_decide_eq_true (List.all_eq_true.1 h _ (DataW.weights_mem_each ht hd m hm))
theorem small_field {t : TypeId} {fs : Array Field} {parts : List (DataW H)} (hu : Try.prog.underlying t = some (.struct fs)) (h : Small t (.agg parts)) {j : Nat} {f : Field} {d : DataW H} (hf : fs[j]? = some f) (hd : parts[j]? = some d) : Small f.type d := fun m hm => by
  refine h m ?_
  simp only [DataW.weights, hu]
  exact DataW.weights_mem_each (by simp [hf]) hd m hm

/-- A slice opened: its elements lie in a row. -/
theorem open_flat {α : Type} {enc' : α → List Value} {sz : Nat} {Q : α → Prop} {t e : TypeId} (ht : Try.prog.underlying t = some (.slice e)) (hc : Try.prog.cellsOf e = sz) (hl : ∀ x, (enc' x).length = sz) (hb : 0 < Try.prog.bytesOf e)
    (helem : ∀ n cs x, DataW.trod enc Try.prog w base spare held n e cs = some x → Small e x.1 → ∃ a : α, cs = enc' a ∧ Q a)
    {fuel : Nat} {v : Value} {y : DataW H × List MemPlace} (h : DataW.trod enc Try.prog w base spare held fuel t [v] = some y) (hs : Small t y.1) :
    ∃ A c, ∃ l : List α, v = .slice A l.length c ∧ FlatRow enc' sz w A l ∧ ∀ a ∈ l, Q a := by
  rcases Deep.open_slice ht h with ⟨e1, rfl⟩ | ⟨a, len, cap, m, n, D, Pl, e1, _, hlc, _, hm, rfl, hall⟩
  · cases e1
    exact ⟨none, 0, [], rfl, ⟨by simp, by simp⟩, by simp⟩
  · cases e1
    have hlen : len ≤ m := by rw [hm]; split <;> omega
    have hsz : len ≤ 140737488351232 := by
      have h1 : (len + (m - len)) * Try.prog.bytesOf e ≤ 140737488351232 := hs _ (by simp [DataW.weights, ht])
      have h2 : len ≤ (len + (m - len)) * Try.prog.bytesOf e := Nat.le_trans (Nat.le_add_right _ _) (Nat.le_mul_of_pos_right _ hb)
      omega
    have hel : ∀ i, i < len → ∃ x : α, Q x ∧ ∀ (j : Nat) (u : Value), (enc' x)[j]? = some u → w.cell? (a.add (i * sz + j)) = some u := fun i hi => by
      obtain ⟨cs', h1, h2⟩ := hall i (by omega)
      have hsm : Small e (D i) := fun q hq => hs q (by
        simp only [DataW.weights, ht, List.mem_cons, List.mem_append]
        exact .inr (.inl (weightsAll_mem (List.mem_map.2 ⟨i, List.mem_range.2 hi, rfl⟩) q hq)))
      obtain ⟨x, rfl, hQ⟩ := helem _ _ _ h2 hsm
      obtain ⟨_, _, h3⟩ := World.cells?_some h1
      refine ⟨x, hQ, fun j u hu => ?_⟩
      have hj : j < sz := by rw [← hl x]; exact (List.getElem?_eq_some_iff.1 hu).1
      have h4 := h3 j (by rw [hc]; exact hj)
      rw [hc, Deep.add_add, hu] at h4
      exact h4
    by_cases hz : len = 0
    · subst hz
      exact ⟨some a, cap, [], rfl, ⟨by simp, by simp⟩, by simp⟩
    · obtain ⟨x0, _, _⟩ := hel 0 (by omega)
      have : Inhabited α := ⟨x0⟩
      obtain ⟨f, hf⟩ := Deep.choose_lt hel
      refine ⟨some a, cap, (List.range len).map f, by simp, ⟨by simpa using hsz, fun i x hx => ⟨a, rfl, fun j u hu => ?_⟩⟩, fun x hx => ?_⟩
      · obtain ⟨k, hk, rfl⟩ := by simpa [List.getElem?_map, Option.map_eq_some_iff] using hx
        obtain ⟨hk1, rfl⟩ := List.getElem?_eq_some_iff.1 hk
        simp at hk1 hu ⊢
        exact (hf _ hk1).2 j u hu
      · obtain ⟨i, hi, rfl⟩ := List.mem_map.1 hx
        exact (hf i (List.mem_range.1 hi)).1

theorem trod_i64 {t : TypeId} {fuel : Nat} {cs : List Value} {x : DataW H × List MemPlace} (ht : Try.prog.underlying t = some (.int .i64)) (h : DataW.trod enc Try.prog w base spare held fuel t cs = some x) : ∃ n : Int, cs = [.int .i64 n] := by
  obtain ⟨n, h1, _, _⟩ := DataW.trod_int ht h
  exact ⟨n, h1⟩

theorem cells88 : Try.prog.cellsOf 88 = 9 := by kernel_rfl
theorem cells62 : Try.prog.cellsOf 62 = 2 := by kernel_rfl
theorem cells9 : Try.prog.cellsOf 9 = 1 := by kernel_rfl
theorem cells3 : Try.prog.cellsOf 3 = 1 := by kernel_rfl
theorem cells74 : Try.prog.cellsOf 74 = 1 := by kernel_rfl
set_option maxRecDepth 100000 in
theorem open_span {n : Nat} {cs : List Value} {x : DataW H × List MemPlace} (h : DataW.trod enc Try.prog w base spare held n 62 cs = some x) : ∃ s : Span, cs = [.int .i64 s.lo, .int .i64 s.hi] := by
  obtain ⟨xs, m, _, _, hl, _, hf⟩ := DataW.trod_struct Try.underlying62 h
  rw [cells62] at hl
  match cs, hl with
  | [a, b], _ =>
    have hx : xs.length = 2 := by assumption
    match xs, hx with
    | [y0, y1], _ =>
      have f0 : DataW.trod enc Try.prog w base spare held m 3 [a] = some y0 := by have q : DataW.trod enc Try.prog w base spare held m 3 (([a, b].drop 0).take (Try.prog.cellsOf 3)) = some y0 := hf 0 _ rfl; rw [cells3] at q; exact q
      have f1 : DataW.trod enc Try.prog w base spare held m 3 [b] = some y1 := by have q : DataW.trod enc Try.prog w base spare held m 3 (([a, b].drop 1).take (Try.prog.cellsOf 3)) = some y1 := hf 1 _ rfl; rw [cells3] at q; exact q
      obtain ⟨p, e0⟩ := trod_i64 Try.underlying3 f0
      obtain ⟨q, e1⟩ := trod_i64 Try.underlying3 f1
      cases e0; cases e1
      exact ⟨⟨p, q⟩, rfl⟩
set_option maxRecDepth 100000 in
theorem open_plot {n : Nat} {cs : List Value} {x : DataW H × List MemPlace} (h : DataW.trod enc Try.prog w base spare held n 88 cs = some x) (hs : Small 88 x.1) : ∃ p : Plot, cs = encPlot p ∧ p.name.size ≤ 140737488351232 := by
  obtain ⟨xs, m, _, rfl, hl, hx, hf⟩ := DataW.trod_struct Try.underlying88 h
  rw [cells88] at hl
  match cs, hl with
  | [c0, c1, c2, c3, c4, c5, c6, c7, c8], _ =>
    match xs, hx with
    | [y0, y1, y2, y3, y4, y5, y6], _ =>
      have f0 : DataW.trod enc Try.prog w base spare held m 9 [c0] = some y0 := by have q : DataW.trod enc Try.prog w base spare held m 9 (([c0, c1, c2, c3, c4, c5, c6, c7, c8].drop 0).take (Try.prog.cellsOf 9)) = some y0 := hf 0 _ rfl; rw [cells9] at q; exact q
      have f1 : DataW.trod enc Try.prog w base spare held m 74 [c1] = some y1 := by have q : DataW.trod enc Try.prog w base spare held m 74 (([c0, c1, c2, c3, c4, c5, c6, c7, c8].drop 1).take (Try.prog.cellsOf 74)) = some y1 := hf 1 _ rfl; rw [cells74] at q; exact q
      have f2 : DataW.trod enc Try.prog w base spare held m 3 [c2] = some y2 := by have q : DataW.trod enc Try.prog w base spare held m 3 (([c0, c1, c2, c3, c4, c5, c6, c7, c8].drop 2).take (Try.prog.cellsOf 3)) = some y2 := hf 2 _ rfl; rw [cells3] at q; exact q
      have f3 : DataW.trod enc Try.prog w base spare held m 62 [c3, c4] = some y3 := by have q : DataW.trod enc Try.prog w base spare held m 62 (([c0, c1, c2, c3, c4, c5, c6, c7, c8].drop 3).take (Try.prog.cellsOf 62)) = some y3 := hf 3 _ rfl; rw [cells62] at q; exact q
      have f4 : DataW.trod enc Try.prog w base spare held m 3 [c5] = some y4 := by have q : DataW.trod enc Try.prog w base spare held m 3 (([c0, c1, c2, c3, c4, c5, c6, c7, c8].drop 5).take (Try.prog.cellsOf 3)) = some y4 := hf 4 _ rfl; rw [cells3] at q; exact q
      have f5 : DataW.trod enc Try.prog w base spare held m 62 [c6, c7] = some y5 := by have q : DataW.trod enc Try.prog w base spare held m 62 (([c0, c1, c2, c3, c4, c5, c6, c7, c8].drop 6).take (Try.prog.cellsOf 62)) = some y5 := hf 5 _ rfl; rw [cells62] at q; exact q
      have f6 : DataW.trod enc Try.prog w base spare held m 3 [c8] = some y6 := by have q : DataW.trod enc Try.prog w base spare held m 3 (([c0, c1, c2, c3, c4, c5, c6, c7, c8].drop 8).take (Try.prog.cellsOf 3)) = some y6 := hf 6 _ rfl; rw [cells3] at q; exact q
      obtain ⟨s, e0, d0, _⟩ := DataW.trod_string Try.underlying9 f0
      obtain ⟨p1, e1⟩ := trod_i64 Try.underlying74 f1
      obtain ⟨p2, e2⟩ := trod_i64 Try.underlying3 f2
      obtain ⟨s3, e3⟩ := open_span f3
      obtain ⟨p4, e4⟩ := trod_i64 Try.underlying3 f4
      obtain ⟨s5, e5⟩ := open_span f5
      obtain ⟨p6, e6⟩ := trod_i64 Try.underlying3 f6
      cases e0; cases e1; cases e2; cases e3; cases e4; cases e5; cases e6
      refine ⟨⟨s, p1, p2, s3, p4, s5, p6⟩, rfl, ?_⟩
      have h0 : Small 9 y0.1 := small_field Try.underlying88 hs (j := 0) rfl rfl
      have d0' : y0.1 = .lit (.string s.data.toList) := by rw [d0]
      rw [d0'] at h0
      have := h0 s.data.toList.length (by simp [DataW.weights])
      simpa using this

set_option maxRecDepth 100000 in
theorem open_plots {fuel : Nat} {v : Value} {y : DataW H × List MemPlace} (h : DataW.trod enc Try.prog w base spare held fuel 22 [v] = some y) (hs : Small 22 y.1) :
    ∃ A c, ∃ l : List Plot, v = .slice A l.length c ∧ RdPlots w A l := by
  obtain ⟨A, c, l, e, hr, hq⟩ := open_flat (Q := fun p : Plot => p.name.size ≤ 140737488351232) Try.underlying22 cells88 (enc' := encPlot) (fun _ => rfl) (of_decide_eq_true (by kernel_rfl)) (fun n cs x hx hsx => open_plot hx hsx) h hs
  exact ⟨A, c, l, e, hr, hq⟩
set_option maxRecDepth 100000 in
theorem open_intsR {fuel : Nat} {v : Value} {y : DataW H × List MemPlace} (h : DataW.trod enc Try.prog w base spare held fuel 29 [v] = some y) (hs : Small 29 y.1) :
    ∃ A c, ∃ l : List Int, v = .slice A l.length c ∧ RdInts w A l := by
  obtain ⟨A, c, l, e, hr, hq⟩ := open_flat (Q := fun _ : Int => True) Try.underlying29 cells3 (enc' := encI) (fun _ => rfl) (of_decide_eq_true (by kernel_rfl)) (fun n cs x hx hsx => (trod_i64 Try.underlying3 hx).imp fun i e => ⟨e, trivial⟩) h hs
  exact ⟨A, c, l, e, hr⟩

variable {r : Reach} {b0 : Nat} {v : Value} {d : DataW H} {p : List MemPlace}
theorem cells24 : Try.prog.cellsOf 24 = 2 := by kernel_rfl
theorem cells26 : Try.prog.cellsOf 26 = 3 := by kernel_rfl
set_option maxRecDepth 100000 in
/-- A farm, opened. -/
theorem open_farm (hv : Value.okWide Try.prog w r b0 24 v) (h : DataW.Trod enc Try.prog w base spare held 24 v d p) (hs : Small 24 d) : ∃ A c l dry, v = .agg #[.slice A (List.length l) c, .int .i64 dry] ∧ RdPlots w A l := by
  obtain ⟨v0, v1, y0, y1, n, rfl, rfl, rfl, h0, h1⟩ := Joins.open_agg2 Try.underlying24 (by kernel_rfl) cells24 hv h
  obtain ⟨A, c, l, rfl, hr⟩ := open_plots h0 (small_field Try.underlying24 hs (j := 0) rfl rfl)
  obtain ⟨dry, e⟩ := trod_i64 Try.underlying3 h1
  cases e
  exact ⟨A, c, l, dry, rfl, hr⟩
set_option maxRecDepth 100000 in
/-- What is wanted, opened. -/
theorem open_need (hv : Value.okWide Try.prog w r b0 26 v) (h : DataW.Trod enc Try.prog w base spare held 26 v d p) : ∃ n : Need, v = .agg #[.int .i64 n.reed, .int .i64 n.straw, .int .i64 n.heather] := by
  obtain ⟨v0, v1, v2, y0, y1, y2, n, rfl, rfl, rfl, h0, h1, h2⟩ := Joins.open_agg3 Try.underlying26 (by kernel_rfl) cells26 hv h
  obtain ⟨x0, e0⟩ := trod_i64 Try.underlying3 h0
  obtain ⟨x1, e1⟩ := trod_i64 Try.underlying3 h1
  obtain ⟨x2, e2⟩ := trod_i64 Try.underlying3 h2
  cases e0; cases e1; cases e2
  exact ⟨⟨x0, x1, x2⟩, rfl⟩
theorem trod_places {t : TypeId} (h : DataW.Trod enc Try.prog w base spare held t v d p) : ∀ x ∈ p, x.block < w.heap.size := by
  obtain ⟨m, hm⟩ := h
  exact DataW.trod_lt m _ _ _ hm
end
end Go.Proofs.Ytpgkhlpepckfgaa
