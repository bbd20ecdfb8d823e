/-
  An argument that came in, opened: a roof, a point, a number.
-/
import Derived.Test.YthojfhdenfhjfaaDoorRows
import Derived.Test.YthojfhdenfhjfaaDoorRa02
import Derived.Below
import Derived.Carry
import Derived.ChangeMaps5
import Derived.Deep.Slices
import Derived.Lib.SmallJoins
import Derived.ProofKit
import Derived.SizedLaws
set_option linter.all false
set_option linter.unusedVariables false
set_option linter.unusedSimpArgs false
namespace Go.Proofs.YthojfhdenfhjfaaDoor
open Go.RowKit Go.Lib Go.ChangeShapes Go.WideShapes

section
variable {H : Type} {enc : TypeId × Value → H} {w : World} {base : Nat} {spare : Nat → Bool} {held : Bool}

theorem weightsAll_mem {P : Program} {e : TypeId} : ∀ {l : List (DataW H)} {d : DataW H}, d ∈ l → ∀ n ∈ d.weights P e, n ∈ DataW.weightsAll P e l
  | d' :: r, d, hd, n, hn => by
    simp only [DataW.weightsAll, List.mem_append]
    rcases List.mem_cons.1 hd with rfl | h
    · exact Or.inl hn
    · exact Or.inr (weightsAll_mem h n hn)

/-- All that a reading holds is no longer than what a machine holds. -/
def Small (t : TypeId) (d : DataW H) : Prop := ∀ m ∈ d.weights Tryd.prog t, m ≤ 140737488351232

theorem small_of {ts : List TypeId} {ds : List (DataW H)} (h : (DataW.weightsEach Tryd.prog ts ds).all (· ≤ reachBytes) = true) {j : Nat} {t : TypeId} {d : DataW H} (ht : ts[j]? = some t) (hd : ds[j]? = some d) : Small t d := fun m hm =>
  of_decide_eq_true (List.all_eq_true.1 h _ (DataW.weights_mem_each ht hd m hm))
theorem small_field {t : TypeId} {fs : Array Field} {parts : List (DataW H)} (hu : Tryd.prog.underlying t = some (.struct fs)) (h : Small t (.agg parts)) {j : Nat} {f : Field} {d : DataW H} (hf : fs[j]? = some f) (hd : parts[j]? = some d) : Small f.type d := fun m hm => by
  refine h m ?_
  simp only [DataW.weights, hu]
  exact DataW.weights_mem_each (by simp [hf]) hd m hm

/-- A slice opened: its elements lie in a row. -/
theorem open_flat {α : Type} {enc' : α → List Value} {sz : Nat} {Q : α → Prop} {t e : TypeId} (ht : Tryd.prog.underlying t = some (.slice e)) (hc : Tryd.prog.cellsOf e = sz) (hl : ∀ x, (enc' x).length = sz) (hb : 0 < Tryd.prog.bytesOf e)
    (helem : ∀ n cs x, DataW.trod enc Tryd.prog w base spare held n e cs = some x → Small e x.1 → ∃ a : α, cs = enc' a ∧ Q a)
    {fuel : Nat} {v : Value} {y : DataW H × List MemPlace} (h : DataW.trod enc Tryd.prog w base spare held fuel t [v] = some y) (hs : Small t y.1) :
    ∃ A c, ∃ l : List α, v = .slice A l.length c ∧ FlatRow enc' sz w A l ∧ (∀ a ∈ l, Q a) ∧ l.length ≤ c := by
  rcases Deep.open_slice ht h with ⟨e1, rfl⟩ | ⟨a, len, cap, m, n, D, Pl, e1, _, hlc, _, hm, rfl, hall⟩
  · cases e1
    exact ⟨none, 0, [], rfl, ⟨by simp, by simp⟩, by simp, by simp⟩
  · cases e1
    have hlen : len ≤ m := by rw [hm]; split <;> omega
    have hsz : len ≤ 140737488351232 := by
      have h1 : (len + (m - len)) * Tryd.prog.bytesOf e ≤ 140737488351232 := hs _ (by simp [DataW.weights, ht])
      have h2 : len ≤ (len + (m - len)) * Tryd.prog.bytesOf e := Nat.le_trans (Nat.le_add_right _ _) (Nat.le_mul_of_pos_right _ hb)
      omega
    have hel : ∀ i, i < len → ∃ x : α, Q x ∧ ∀ (j : Nat) (u : Value), (enc' x)[j]? = some u → w.cell? (a.add (i * sz + j)) = some u := fun i hi => by
      obtain ⟨cs', h1, h2⟩ := hall i (by omega)
      have hsm : Small e (D i) := fun q hq => hs q (by
        simp only [DataW.weights, ht, List.mem_cons, List.mem_append]
        exact .inr (.inl (weightsAll_mem (List.mem_map.2 ⟨i, List.mem_range.2 hi, rfl⟩) q hq)))
      obtain ⟨x, rfl, hQ⟩ := helem _ _ _ h2 hsm
      obtain ⟨_, _, h3⟩ := World.cells?_some h1
      refine ⟨x, hQ, fun j u hu => ?_⟩
      have hj : j < sz := by rw [← hl x]; exact (List.getElem?_eq_some_iff.1 hu).1
      have h4 := h3 j (by rw [hc]; exact hj)
      rw [hc, Deep.add_add, hu] at h4
      exact h4
    by_cases hz : len = 0
    · subst hz
      exact ⟨some a, cap, [], rfl, ⟨by simp, by simp⟩, by simp, by simp⟩
    · obtain ⟨x0, _, _⟩ := hel 0 (by omega)
      have : Inhabited α := ⟨x0⟩
      obtain ⟨f, hf⟩ := Deep.choose_lt hel
      refine ⟨some a, cap, (List.range len).map f, by simp, ⟨by simpa using hsz, fun i x hx => ⟨a, rfl, fun j u hu => ?_⟩⟩, fun x hx => ?_, by simpa using hlc⟩
      · obtain ⟨k, hk, rfl⟩ := by simpa [List.getElem?_map, Option.map_eq_some_iff] using hx
        obtain ⟨hk1, rfl⟩ := List.getElem?_eq_some_iff.1 hk
        simp at hk1 hu ⊢
        exact (hf _ hk1).2 j u hu
      · obtain ⟨i, hi, rfl⟩ := List.mem_map.1 hx
        exact (hf i (List.mem_range.1 hi)).1

theorem trod_i64 {t : TypeId} {fuel : Nat} {cs : List Value} {x : DataW H × List MemPlace} (ht : Tryd.prog.underlying t = some (.int .i64)) (h : DataW.trod enc Tryd.prog w base spare held fuel t cs = some x) : ∃ n : Int, cs = [.int .i64 n] := by
  obtain ⟨n, h1, _, _⟩ := DataW.trod_int ht h
  exact ⟨n, h1⟩

theorem trod_str {fuel : Nat} {cs : List Value} {y : DataW H × List MemPlace} (h : DataW.trod enc Tryd.prog w base spare held fuel 9 cs = some y) (hs : Small 9 y.1) : ∃ s : ByteArray, cs = [.string s] ∧ s.size ≤ 140737488351232 := by
  obtain ⟨s, e0, d0, _⟩ := DataW.trod_string Tryd.underlying9 h
  refine ⟨s, e0, ?_⟩
  have d0' : y.1 = .lit (.string s.data.toList) := by rw [d0]
  rw [d0'] at hs
  have := hs s.data.toList.length (by simp [DataW.weights])
  simpa using this
theorem tc3 : Tryd.prog.cellsOf 3 = 1 := by kernel_rfl
theorem tc9 : Tryd.prog.cellsOf 9 = 1 := by kernel_rfl
theorem tc42 : Tryd.prog.cellsOf 42 = 1 := by kernel_rfl
theorem tc43 : Tryd.prog.cellsOf 43 = 1 := by kernel_rfl
theorem tc22 : Tryd.prog.cellsOf 22 = 1 := by kernel_rfl
theorem tc23 : Tryd.prog.cellsOf 23 = 1 := by kernel_rfl
theorem tc25 : Tryd.prog.cellsOf 25 = 2 := by kernel_rfl
theorem tc39 : Tryd.prog.cellsOf 39 = 2 := by kernel_rfl
theorem tc45 : Tryd.prog.cellsOf 45 = 7 := by kernel_rfl
theorem tc58 : Tryd.prog.cellsOf 58 = 6 := by kernel_rfl
set_option maxRecDepth 100000 in
theorem trod_pnt {n : Nat} {cs : List Value} {x : DataW H × List MemPlace} (h : DataW.trod enc Tryd.prog w base spare held n 39 cs = some x) (hs : Small 39 x.1) : ∃ p : Pnt, cs = encPnt p := by
  obtain ⟨xs, m, _, rfl, hl, hx, hf⟩ := DataW.trod_struct Tryd.underlying39 h
  rw [tc39] at hl
  match cs, hl with
  | [c0, c1], _ =>
    match xs, hx with
    | [y0, y1], _ =>
      have f0 : DataW.trod enc Tryd.prog w base spare held m 3 [c0] = some y0 := by have q : DataW.trod enc Tryd.prog w base spare held m 3 (([c0, c1].drop 0).take (Tryd.prog.cellsOf 3)) = some y0 := hf 0 _ rfl; rw [tc3] at q; exact q
      have f1 : DataW.trod enc Tryd.prog w base spare held m 3 [c1] = some y1 := by have q : DataW.trod enc Tryd.prog w base spare held m 3 (([c0, c1].drop 1).take (Tryd.prog.cellsOf 3)) = some y1 := hf 1 _ rfl; rw [tc3] at q; exact q
      obtain ⟨p0, e0⟩ := trod_i64 Tryd.underlying3 f0
      obtain ⟨p1, e1⟩ := trod_i64 Tryd.underlying3 f1
      cases e0; cases e1
      exact ⟨⟨p0, p1⟩, rfl⟩
set_option maxRecDepth 100000 in
theorem open_pnts {fuel : Nat} {v : Value} {y : DataW H × List MemPlace} (h : DataW.trod enc Tryd.prog w base spare held fuel 43 [v] = some y) (hs : Small 43 y.1) :
    ∃ A c, ∃ l : List Pnt, v = .slice A l.length c ∧ RdPnts w A l ∧ l.length ≤ c := by
  obtain ⟨A, c, l, e, hr, hq, hc⟩ := open_flat (Q := fun _ : Pnt => True) Tryd.underlying43 tc39 (enc' := encPnt) (fun _ => rfl) (of_decide_eq_true (by kernel_rfl)) (fun n cs x hx hsx => (trod_pnt hx hsx).imp fun i e => ⟨e, trivial⟩) h hs
  exact ⟨A, c, l, e, hr, hc⟩
set_option maxRecDepth 100000 in
theorem trod_face {n : Nat} {cs : List Value} {x : DataW H × List MemPlace} (h : DataW.trod enc Tryd.prog w base spare held n 45 cs = some x) (hs : Small 45 x.1) : ∃ f : Face, cs = encFace f ∧ RdPnts w f.ca f.corners ∧ f.name.size ≤ 140737488351232 ∧ f.corners.length ≤ f.cc := by
  obtain ⟨xs, m, _, rfl, hl, hx, hf⟩ := DataW.trod_struct Tryd.underlying45 h
  rw [tc45] at hl
  match cs, hl with
  | [c0, c1, c2, c3, c4, c5, c6], _ =>
    match xs, hx with
    | [y0, y1, y2, y3, y4, y5, y6], _ =>
      have f0 : DataW.trod enc Tryd.prog w base spare held m 9 [c0] = some y0 := by have q : DataW.trod enc Tryd.prog w base spare held m 9 (([c0, c1, c2, c3, c4, c5, c6].drop 0).take (Tryd.prog.cellsOf 9)) = some y0 := hf 0 _ rfl; rw [tc9] at q; exact q
      have f1 : DataW.trod enc Tryd.prog w base spare held m 42 [c1] = some y1 := by have q : DataW.trod enc Tryd.prog w base spare held m 42 (([c0, c1, c2, c3, c4, c5, c6].drop 1).take (Tryd.prog.cellsOf 42)) = some y1 := hf 1 _ rfl; rw [tc42] at q; exact q
      have f2 : DataW.trod enc Tryd.prog w base spare held m 3 [c2] = some y2 := by have q : DataW.trod enc Tryd.prog w base spare held m 3 (([c0, c1, c2, c3, c4, c5, c6].drop 2).take (Tryd.prog.cellsOf 3)) = some y2 := hf 2 _ rfl; rw [tc3] at q; exact q
      have f3 : DataW.trod enc Tryd.prog w base spare held m 3 [c3] = some y3 := by have q : DataW.trod enc Tryd.prog w base spare held m 3 (([c0, c1, c2, c3, c4, c5, c6].drop 3).take (Tryd.prog.cellsOf 3)) = some y3 := hf 3 _ rfl; rw [tc3] at q; exact q
      have f4 : DataW.trod enc Tryd.prog w base spare held m 3 [c4] = some y4 := by have q : DataW.trod enc Tryd.prog w base spare held m 3 (([c0, c1, c2, c3, c4, c5, c6].drop 4).take (Tryd.prog.cellsOf 3)) = some y4 := hf 4 _ rfl; rw [tc3] at q; exact q
      have f5 : DataW.trod enc Tryd.prog w base spare held m 3 [c5] = some y5 := by have q : DataW.trod enc Tryd.prog w base spare held m 3 (([c0, c1, c2, c3, c4, c5, c6].drop 5).take (Tryd.prog.cellsOf 3)) = some y5 := hf 5 _ rfl; rw [tc3] at q; exact q
      have f6 : DataW.trod enc Tryd.prog w base spare held m 43 [c6] = some y6 := by have q : DataW.trod enc Tryd.prog w base spare held m 43 (([c0, c1, c2, c3, c4, c5, c6].drop 6).take (Tryd.prog.cellsOf 43)) = some y6 := hf 6 _ rfl; rw [tc43] at q; exact q
      obtain ⟨p0, e0, b0⟩ := trod_str f0 (small_field Tryd.underlying45 hs (j := 0) rfl rfl)
      obtain ⟨p1, e1⟩ := trod_i64 Tryd.underlying42 f1
      obtain ⟨p2, e2⟩ := trod_i64 Tryd.underlying3 f2
      obtain ⟨p3, e3⟩ := trod_i64 Tryd.underlying3 f3
      obtain ⟨p4, e4⟩ := trod_i64 Tryd.underlying3 f4
      obtain ⟨p5, e5⟩ := trod_i64 Tryd.underlying3 f5
      obtain ⟨A6, k6, l6, e6, r6, q6⟩ := open_pnts f6 (small_field Tryd.underlying45 hs (j := 6) rfl rfl)
      cases e0; cases e1; cases e2; cases e3; cases e4; cases e5; cases e6
      exact ⟨⟨p0, p1, p2, p3, p4, p5, l6, A6, k6⟩, rfl, r6, b0, q6⟩
set_option maxRecDepth 100000 in
theorem trod_opn {n : Nat} {cs : List Value} {x : DataW H × List MemPlace} (h : DataW.trod enc Tryd.prog w base spare held n 58 cs = some x) (hs : Small 58 x.1) : ∃ f : Opn, cs = encOpn f ∧ f.name.size ≤ 140737488351232 := by
  obtain ⟨xs, m, _, rfl, hl, hx, hf⟩ := DataW.trod_struct Tryd.underlying58 h
  rw [tc58] at hl
  match cs, hl with
  | [c0, c1, c2, c3, c4, c5], _ =>
    match xs, hx with
    | [y0, y1, y2, y3], _ =>
      have f0 : DataW.trod enc Tryd.prog w base spare held m 9 [c0] = some y0 := by have q : DataW.trod enc Tryd.prog w base spare held m 9 (([c0, c1, c2, c3, c4, c5].drop 0).take (Tryd.prog.cellsOf 9)) = some y0 := hf 0 _ rfl; rw [tc9] at q; exact q
      have f1 : DataW.trod enc Tryd.prog w base spare held m 3 [c1] = some y1 := by have q : DataW.trod enc Tryd.prog w base spare held m 3 (([c0, c1, c2, c3, c4, c5].drop 1).take (Tryd.prog.cellsOf 3)) = some y1 := hf 1 _ rfl; rw [tc3] at q; exact q
      have f2 : DataW.trod enc Tryd.prog w base spare held m 39 [c2, c3] = some y2 := by have q : DataW.trod enc Tryd.prog w base spare held m 39 (([c0, c1, c2, c3, c4, c5].drop 2).take (Tryd.prog.cellsOf 39)) = some y2 := hf 2 _ rfl; rw [tc39] at q; exact q
      have f3 : DataW.trod enc Tryd.prog w base spare held m 39 [c4, c5] = some y3 := by have q : DataW.trod enc Tryd.prog w base spare held m 39 (([c0, c1, c2, c3, c4, c5].drop 4).take (Tryd.prog.cellsOf 39)) = some y3 := hf 3 _ rfl; rw [tc39] at q; exact q
      obtain ⟨p0, e0, b0⟩ := trod_str f0 (small_field Tryd.underlying58 hs (j := 0) rfl rfl)
      obtain ⟨p1, e1⟩ := trod_i64 Tryd.underlying3 f1
      obtain ⟨p2, e2⟩ := trod_pnt f2 (small_field Tryd.underlying58 hs (j := 2) rfl rfl)
      obtain ⟨p3, e3⟩ := trod_pnt f3 (small_field Tryd.underlying58 hs (j := 3) rfl rfl)
      cases e0; cases e1; cases e2; cases e3
      exact ⟨⟨p0, p1, p2, p3⟩, rfl, b0⟩
set_option maxRecDepth 100000 in
theorem open_faces {fuel : Nat} {v : Value} {y : DataW H × List MemPlace} (h : DataW.trod enc Tryd.prog w base spare held fuel 22 [v] = some y) (hs : Small 22 y.1) :
    ∃ A c, ∃ l : List Face, v = .slice A l.length c ∧ RdFaces w A l ∧ l.length ≤ c := by
  obtain ⟨A, c, l, e, hr, hq, hc⟩ := open_flat (Q := fun f : Face => RdPnts w f.ca f.corners ∧ f.name.size ≤ 140737488351232 ∧ f.corners.length ≤ f.cc) Tryd.underlying22 tc45 (enc' := encFace) (fun _ => rfl) (of_decide_eq_true (by kernel_rfl)) (fun n cs x hx hsx => trod_face hx hsx) h hs
  exact ⟨A, c, l, e, ⟨hr, hq⟩, hc⟩
set_option maxRecDepth 100000 in
theorem open_opns {fuel : Nat} {v : Value} {y : DataW H × List MemPlace} (h : DataW.trod enc Tryd.prog w base spare held fuel 23 [v] = some y) (hs : Small 23 y.1) :
    ∃ A c, ∃ l : List Opn, v = .slice A l.length c ∧ RdOpns w A l ∧ l.length ≤ c := by
  obtain ⟨A, c, l, e, hr, hq, hc⟩ := open_flat (Q := fun f : Opn => f.name.size ≤ 140737488351232) Tryd.underlying23 tc58 (enc' := encOpn) (fun _ => rfl) (of_decide_eq_true (by kernel_rfl)) (fun n cs x hx hsx => trod_opn hx hsx) h hs
  exact ⟨A, c, l, e, ⟨hr, hq⟩, hc⟩
variable {r : Reach} {b0 : Nat} {v : Value} {d : DataW H} {p : List MemPlace}
set_option maxRecDepth 100000 in
/-- A roof, opened. -/
theorem open_roof (hv : Value.okWide Tryd.prog w r b0 25 v) (h : DataW.Trod enc Tryd.prog w base spare held 25 v d p) (hs : Small 25 d) : ∃ rf : Roof, v = roofVal rf ∧ RdRoof w rf := by
  obtain ⟨v0, v1, y0, y1, n, rfl, rfl, rfl, h0, h1⟩ := Joins.open_agg2 Tryd.underlying25 (by kernel_rfl) tc25 hv h
  obtain ⟨A, c, l, rfl, hr, hc⟩ := open_faces h0 (small_field Tryd.underlying25 hs (j := 0) rfl rfl)
  obtain ⟨A1, c1, l1, rfl, hr1, hc1⟩ := open_opns h1 (small_field Tryd.underlying25 hs (j := 1) rfl rfl)
  exact ⟨⟨l, l1, A, c, A1, c1⟩, rfl, hr, hr1, hc, hc1⟩
set_option maxRecDepth 100000 in
/-- A point, opened. -/
theorem open_pnt (hv : Value.okWide Tryd.prog w r b0 39 v) (h : DataW.Trod enc Tryd.prog w base spare held 39 v d p) : ∃ q : Pnt, v = pntVal q := by
  obtain ⟨v0, v1, y0, y1, n, rfl, rfl, rfl, h0, h1⟩ := Joins.open_agg2 Tryd.underlying39 (by kernel_rfl) tc39 hv h
  obtain ⟨x0, e0⟩ := trod_i64 Tryd.underlying3 h0
  obtain ⟨x1, e1⟩ := trod_i64 Tryd.underlying3 h1
  cases e0; cases e1
  exact ⟨⟨x0, x1⟩, rfl⟩
theorem trod_places {t : TypeId} (h : DataW.Trod enc Tryd.prog w base spare held t v d p) : ∀ x ∈ p, x.block < w.heap.size := by
  obtain ⟨m, hm⟩ := h
  exact DataW.trod_lt m _ _ _ hm
end
end Go.Proofs.YthojfhdenfhjfaaDoor
