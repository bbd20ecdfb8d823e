/-
  An argument that came in, opened: three small numbers. An argument that came in, opened: a store as the walks read it. An argument that came in, opened: a chore as the walks read it.
-/
import Derived.Test.YtpgkhlpepckfgaaXa04
import Derived.Test.YtpgkhlpepckfgaaXa17
import Derived.Test.YtpgkhlpepckfgaaXc01
import Derived.Laws.IdiomArrays
set_option linter.all false
set_option linter.unusedVariables false
set_option linter.unusedSimpArgs false
section
namespace Go.Proofs.Ytpgkhlpepckfgaa
open Go.RowKit Go.Lib Go.ChangeShapes Go.WideShapes
section
variable {H : Type} {enc : TypeId × Value → H} {w : World} {base : Nat} {spare : Nat → Bool} {held : Bool}
variable {r : Reach} {b0 : Nat} {v : Value} {d : DataW H} {p : List MemPlace}
theorem cells35 : Try.prog.cellsOf 35 = 1 := by kernel_rfl
theorem cells36 : Try.prog.cellsOf 36 = 3 := by kernel_rfl
theorem trod_u16 {fuel : Nat} {c : Value} {x : DataW H × List MemPlace} (h : DataW.trod enc Try.prog w base spare held fuel 35 [c] = some x) : ∃ a : Int, c = .int .u16 a ∧ 0 ≤ a ∧ a ≤ 65535 := by
  obtain ⟨n, h1, _, h2⟩ := DataW.trod_int Try.underlying35 h
  cases h1
  simp only [Lit.wf, Bool.and_eq_true, decide_eq_true_eq] at h2
  exact ⟨n, rfl, h2.1, h2.2⟩
set_option maxRecDepth 100000 in
/-- Three numbers of two bytes each, opened. -/
theorem open_three (hv : Value.okWide Try.prog w r b0 36 v) (h : DataW.Trod enc Try.prog w base spare held 36 v d p) : ∃ a0 a1 a2 : Int, v = .agg #[.int .u16 a0, .int .u16 a1, .int .u16 a2] ∧ (0 ≤ a0 ∧ a0 ≤ 65535) ∧ (0 ≤ a1 ∧ a1 ≤ 65535) ∧ (0 ≤ a2 ∧ a2 ≤ 65535) := by
  simp only [Value.okWide, Try.underlying36] at hv
  obtain ⟨cs, rfl, hsz, _⟩ := hv
  rw [cells36] at hsz
  obtain ⟨l⟩ := cs
  match l, hsz with
  | [c0, c1, c2], _ =>
    obtain ⟨fuel, hf⟩ := h
    obtain ⟨y0, y1, y2, n, _, h0, h1, h2⟩ := trod_array3 Try.underlying36 cells35 (c0 := c0) (c1 := c1) (c2 := c2) (by simpa [Value.cells] using hf)
    obtain ⟨a0, rfl, x0⟩ := trod_u16 h0
    obtain ⟨a1, rfl, x1⟩ := trod_u16 h1
    obtain ⟨a2, rfl, x2⟩ := trod_u16 h2
    exact ⟨a0, a1, a2, rfl, x0, x1, x2⟩
end
end Go.Proofs.Ytpgkhlpepckfgaa
end
section
namespace Go.Proofs.Ytpgkhlpepckfgaa
open Go.RowKit Go.Lib Go.ChangeShapes Go.WideShapes
section
variable {H : Type} {enc : TypeId × Value → H} {w : World} {base : Nat} {spare : Nat → Bool} {held : Bool}
theorem cells91 : Try.prog.cellsOf 91 = 2 := by kernel_rfl
theorem cells77 : Try.prog.cellsOf 77 = 7 := by kernel_rfl
theorem cells75 : Try.prog.cellsOf 75 = 1 := by kernel_rfl
theorem cells41 : Try.prog.cellsOf 41 = 1 := by kernel_rfl
theorem cells40 : Try.prog.cellsOf 40 = 1 := by kernel_rfl
theorem cells29 : Try.prog.cellsOf 29 = 1 := by kernel_rfl
theorem cells43 : Try.prog.cellsOf 43 = 6 := by kernel_rfl
set_option maxRecDepth 100000 in
theorem open_portion {n : Nat} {cs : List Value} {x : DataW H × List MemPlace} (h : DataW.trod enc Try.prog w base spare held n 91 cs = some x) : ∃ p : Portion, cs = encPortion p := by
  obtain ⟨xs, m, _, rfl, hl, hx, hf⟩ := DataW.trod_struct Try.underlying91 h
  rw [cells91] at hl
  match cs, hl with
  | [a, b], _ =>
    match xs, hx with
    | [y0, y1], _ =>
      have f0 : DataW.trod enc Try.prog w base spare held m 3 [a] = some y0 := by have q : DataW.trod enc Try.prog w base spare held m 3 (([a, b].drop 0).take (Try.prog.cellsOf 3)) = some y0 := hf 0 _ rfl; rw [cells3] at q; exact q
      have f1 : DataW.trod enc Try.prog w base spare held m 3 [b] = some y1 := by have q : DataW.trod enc Try.prog w base spare held m 3 (([a, b].drop 1).take (Try.prog.cellsOf 3)) = some y1 := hf 1 _ rfl; rw [cells3] at q; exact q
      obtain ⟨p, e0⟩ := trod_i64 Try.underlying3 f0
      obtain ⟨q, e1⟩ := trod_i64 Try.underlying3 f1
      cases e0; cases e1
      exact ⟨⟨p, q⟩, rfl⟩
set_option maxRecDepth 100000 in
theorem open_parts {fuel : Nat} {v : Value} {y : DataW H × List MemPlace} (h : DataW.trod enc Try.prog w base spare held fuel 41 [v] = some y) (hs : Small 41 y.1) :
    ∃ A c, ∃ l : List Portion, v = .slice A l.length c ∧ RdParts w A l := by
  obtain ⟨A, c, l, e, hr, hq⟩ := open_flat (Q := fun _ : Portion => True) Try.underlying41 cells91 (enc' := encPortion) (fun _ => rfl) (of_decide_eq_true (by kernel_rfl)) (fun n cs x hx hsx => (open_portion hx).imp fun i e => ⟨e, trivial⟩) h hs
  exact ⟨A, c, l, e, hr⟩
set_option maxRecDepth 100000 in
theorem open_heap {n : Nat} {cs : List Value} {x : DataW H × List MemPlace} (h : DataW.trod enc Try.prog w base spare held n 77 cs = some x) (hs : Small 77 x.1) : ∃ p : Heap, cs = encHeap p ∧ RdParts w p.pa p.parts ∧ p.name.size ≤ 140737488351232 := by
  obtain ⟨xs, m, _, rfl, hl, hx, hf⟩ := DataW.trod_struct Try.underlying77 h
  rw [cells77] at hl
  match cs, hl with
  | [c0, c1, c2, c3, c4, c5, c6], _ =>
    match xs, hx with
    | [y0, y1, y2, y3, y4, y5], _ =>
      have f0 : DataW.trod enc Try.prog w base spare held m 9 [c0] = some y0 := by have q : DataW.trod enc Try.prog w base spare held m 9 (([c0, c1, c2, c3, c4, c5, c6].drop 0).take (Try.prog.cellsOf 9)) = some y0 := hf 0 _ rfl; rw [cells9] at q; exact q
      have f1 : DataW.trod enc Try.prog w base spare held m 74 [c1] = some y1 := by have q : DataW.trod enc Try.prog w base spare held m 74 (([c0, c1, c2, c3, c4, c5, c6].drop 1).take (Try.prog.cellsOf 74)) = some y1 := hf 1 _ rfl; rw [cells74] at q; exact q
      have f2 : DataW.trod enc Try.prog w base spare held m 75 [c2] = some y2 := by have q : DataW.trod enc Try.prog w base spare held m 75 (([c0, c1, c2, c3, c4, c5, c6].drop 2).take (Try.prog.cellsOf 75)) = some y2 := hf 2 _ rfl; rw [cells75] at q; exact q
      have f3 : DataW.trod enc Try.prog w base spare held m 41 [c3] = some y3 := by have q : DataW.trod enc Try.prog w base spare held m 41 (([c0, c1, c2, c3, c4, c5, c6].drop 3).take (Try.prog.cellsOf 41)) = some y3 := hf 3 _ rfl; rw [cells41] at q; exact q
      have f4 : DataW.trod enc Try.prog w base spare held m 3 [c4] = some y4 := by have q : DataW.trod enc Try.prog w base spare held m 3 (([c0, c1, c2, c3, c4, c5, c6].drop 4).take (Try.prog.cellsOf 3)) = some y4 := hf 4 _ rfl; rw [cells3] at q; exact q
      have f5 : DataW.trod enc Try.prog w base spare held m 62 [c5, c6] = some y5 := by have q : DataW.trod enc Try.prog w base spare held m 62 (([c0, c1, c2, c3, c4, c5, c6].drop 5).take (Try.prog.cellsOf 62)) = some y5 := hf 5 _ rfl; rw [cells62] at q; exact q
      obtain ⟨s, e0, d0, _⟩ := DataW.trod_string Try.underlying9 f0
      obtain ⟨p1, e1⟩ := trod_i64 Try.underlying74 f1
      obtain ⟨p2, e2⟩ := trod_i64 Try.underlying75 f2
      obtain ⟨A, c, l, e3, hr⟩ := open_parts f3 (small_field Try.underlying77 hs (j := 3) rfl rfl)
      obtain ⟨p4, e4⟩ := trod_i64 Try.underlying3 f4
      obtain ⟨s5, e5⟩ := open_span f5
      cases e0; cases e1; cases e2; cases e3; cases e4; cases e5
      refine ⟨⟨s, p1, p2, l, p4, s5, A, c⟩, rfl, hr, ?_⟩
      have h0 : Small 9 y0.1 := small_field Try.underlying77 hs (j := 0) rfl rfl
      have d0' : y0.1 = .lit (.string s.data.toList) := by rw [d0]
      rw [d0'] at h0
      have := h0 s.data.toList.length (by simp [DataW.weights])
      simpa using this
set_option maxRecDepth 100000 in
theorem open_heaps {fuel : Nat} {v : Value} {y : DataW H × List MemPlace} (h : DataW.trod enc Try.prog w base spare held fuel 40 [v] = some y) (hs : Small 40 y.1) :
    ∃ A c, ∃ l : List Heap, v = .slice A l.length c ∧ RdHeaps w A l := by
  obtain ⟨A, c, l, e, hr, hq⟩ := open_flat (Q := fun p : Heap => RdParts w p.pa p.parts ∧ p.name.size ≤ 140737488351232) Try.underlying40 cells77 (enc' := encHeap) (fun _ => rfl) (of_decide_eq_true (by kernel_rfl)) (fun n cs x hx hsx => open_heap hx hsx) h hs
  exact ⟨A, c, l, e, hr, hq⟩
variable {r : Reach} {b0 : Nat} {v : Value} {d : DataW H} {p : List MemPlace}
set_option maxRecDepth 100000 in
/-- A store, opened. -/
theorem open_store (hv : Value.okWide Try.prog w r b0 43 v) (h : DataW.Trod enc Try.prog w base spare held 43 v d p) (hs : Small 43 d) : ∃ s : Store, v = storeVal s ∧ RdStore w s := by
  simp only [Value.okWide, Try.underlying43] at hv
  obtain ⟨cs, rfl, hsz, _⟩ := hv
  rw [cells43] at hsz
  obtain ⟨l⟩ := cs
  match l, hsz with
  | [c0, c1, c2, c3, c4, c5], _ =>
    obtain ⟨fuel, hfu⟩ := h
    have hfu' : DataW.trod enc Try.prog w base spare held fuel 43 [c0, c1, c2, c3, c4, c5] = some (d, p) := by simpa [Value.cells] using hfu
    obtain ⟨xs, m, _, hxs, hl, hx, hf⟩ := DataW.trod_struct Try.underlying43 hfu'
    match xs, hx with
    | [y0, y1, y2, y3, y4, y5], _ =>
      have hd : d = .agg [y0.1, y1.1, y2.1, y3.1, y4.1, y5.1] := by have := congrArg Prod.fst hxs; simpa using this
      subst hd
      have f0 : DataW.trod enc Try.prog w base spare held m 3 [c0] = some y0 := by have q : DataW.trod enc Try.prog w base spare held m 3 (([c0, c1, c2, c3, c4, c5].drop 0).take (Try.prog.cellsOf 3)) = some y0 := hf 0 _ rfl; rw [cells3] at q; exact q
      have f1 : DataW.trod enc Try.prog w base spare held m 29 [c1] = some y1 := by have q : DataW.trod enc Try.prog w base spare held m 29 (([c0, c1, c2, c3, c4, c5].drop 1).take (Try.prog.cellsOf 29)) = some y1 := hf 1 _ rfl; rw [cells29] at q; exact q
      have f2 : DataW.trod enc Try.prog w base spare held m 29 [c2] = some y2 := by have q : DataW.trod enc Try.prog w base spare held m 29 (([c0, c1, c2, c3, c4, c5].drop 2).take (Try.prog.cellsOf 29)) = some y2 := hf 2 _ rfl; rw [cells29] at q; exact q
      have f3 : DataW.trod enc Try.prog w base spare held m 40 [c3] = some y3 := by have q : DataW.trod enc Try.prog w base spare held m 40 (([c0, c1, c2, c3, c4, c5].drop 3).take (Try.prog.cellsOf 40)) = some y3 := hf 3 _ rfl; rw [cells40] at q; exact q
      have f4 : DataW.trod enc Try.prog w base spare held m 41 [c4] = some y4 := by have q : DataW.trod enc Try.prog w base spare held m 41 (([c0, c1, c2, c3, c4, c5].drop 4).take (Try.prog.cellsOf 41)) = some y4 := hf 4 _ rfl; rw [cells41] at q; exact q
      have f5 : DataW.trod enc Try.prog w base spare held m 41 [c5] = some y5 := by have q : DataW.trod enc Try.prog w base spare held m 41 (([c0, c1, c2, c3, c4, c5].drop 5).take (Try.prog.cellsOf 41)) = some y5 := hf 5 _ rfl; rw [cells41] at q; exact q
      obtain ⟨yr, e0⟩ := trod_i64 Try.underlying3 f0
      obtain ⟨A1, k1, l1, e1, r1⟩ := open_intsR f1 (small_field Try.underlying43 hs (j := 1) rfl rfl)
      obtain ⟨A2, k2, l2, e2, r2⟩ := open_intsR f2 (small_field Try.underlying43 hs (j := 2) rfl rfl)
      obtain ⟨A3, k3, l3, e3, r3⟩ := open_heaps f3 (small_field Try.underlying43 hs (j := 3) rfl rfl)
      obtain ⟨A4, k4, l4, e4, r4⟩ := open_parts f4 (small_field Try.underlying43 hs (j := 4) rfl rfl)
      obtain ⟨A5, k5, l5, e5, r5⟩ := open_parts f5 (small_field Try.underlying43 hs (j := 5) rfl rfl)
      cases e0; subst e1 e2 e3 e4 e5
      exact ⟨⟨yr, l1, l2, l3, l4, l5, A1, k1, A2, k2, A3, k3, A4, k4, A5, k5⟩, rfl, r1, r2, r3, r4, r5⟩
end
end Go.Proofs.Ytpgkhlpepckfgaa
end
section
namespace Go.Proofs.Ytpgkhlpepckfgaa
open Go.RowKit Go.Lib Go.ChangeShapes Go.WideShapes
section
variable {H : Type} {enc : TypeId × Value → H} {w : World} {base : Nat} {spare : Nat → Bool} {held : Bool}
theorem cells64 : Try.prog.cellsOf 64 = 9 := by kernel_rfl
theorem cells60 : Try.prog.cellsOf 60 = 1 := by kernel_rfl
theorem trod_str {fuel : Nat} {cs : List Value} {y : DataW H × List MemPlace} (h : DataW.trod enc Try.prog w base spare held fuel 9 cs = some y) (hs : Small 9 y.1) : ∃ s : ByteArray, cs = [.string s] ∧ s.size ≤ 140737488351232 := by
  obtain ⟨s, e0, d0, _⟩ := DataW.trod_string Try.underlying9 h
  refine ⟨s, e0, ?_⟩
  have d0' : y.1 = .lit (.string s.data.toList) := by rw [d0]
  rw [d0'] at hs
  have := hs s.data.toList.length (by simp [DataW.weights])
  simpa using this
/-- What a chore that came in keeps to. -/
def WellC (a : Chore) : Prop := a.name.size ≤ 140737488351232 ∧ a.other.size ≤ 140737488351232 ∧ (Lit.int .i64 a.kind).wf = true
set_option maxRecDepth 100000 in
theorem trod_chore {n : Nat} {cs : List Value} {x : DataW H × List MemPlace} (h : DataW.trod enc Try.prog w base spare held n 64 cs = some x) (hs : Small 64 x.1) : ∃ a : Chore, cs = (choreCells a).toList ∧ WellC a := by
  obtain ⟨xs, m, _, rfl, hl, hx, hf⟩ := DataW.trod_struct Try.underlying64 h
  rw [cells64] at hl
  match cs, hl with
  | [c0, c1, c2, c3, c4, c5, c6, c7, c8], _ =>
    match xs, hx with
    | [y0, y1, y2, y3, y4, y5, y6, y7], _ =>
      have f0 : DataW.trod enc Try.prog w base spare held m 60 [c0] = some y0 := by have q : DataW.trod enc Try.prog w base spare held m 60 (([c0, c1, c2, c3, c4, c5, c6, c7, c8].drop 0).take (Try.prog.cellsOf 60)) = some y0 := hf 0 _ rfl; rw [cells60] at q; exact q
      have f1 : DataW.trod enc Try.prog w base spare held m 3 [c1] = some y1 := by have q : DataW.trod enc Try.prog w base spare held m 3 (([c0, c1, c2, c3, c4, c5, c6, c7, c8].drop 1).take (Try.prog.cellsOf 3)) = some y1 := hf 1 _ rfl; rw [cells3] at q; exact q
      have f2 : DataW.trod enc Try.prog w base spare held m 3 [c2] = some y2 := by have q : DataW.trod enc Try.prog w base spare held m 3 (([c0, c1, c2, c3, c4, c5, c6, c7, c8].drop 2).take (Try.prog.cellsOf 3)) = some y2 := hf 2 _ rfl; rw [cells3] at q; exact q
      have f3 : DataW.trod enc Try.prog w base spare held m 9 [c3] = some y3 := by have q : DataW.trod enc Try.prog w base spare held m 9 (([c0, c1, c2, c3, c4, c5, c6, c7, c8].drop 3).take (Try.prog.cellsOf 9)) = some y3 := hf 3 _ rfl; rw [cells9] at q; exact q
      have f4 : DataW.trod enc Try.prog w base spare held m 9 [c4] = some y4 := by have q : DataW.trod enc Try.prog w base spare held m 9 (([c0, c1, c2, c3, c4, c5, c6, c7, c8].drop 4).take (Try.prog.cellsOf 9)) = some y4 := hf 4 _ rfl; rw [cells9] at q; exact q
      have f5 : DataW.trod enc Try.prog w base spare held m 3 [c5] = some y5 := by have q : DataW.trod enc Try.prog w base spare held m 3 (([c0, c1, c2, c3, c4, c5, c6, c7, c8].drop 5).take (Try.prog.cellsOf 3)) = some y5 := hf 5 _ rfl; rw [cells3] at q; exact q
      have f6 : DataW.trod enc Try.prog w base spare held m 3 [c6] = some y6 := by have q : DataW.trod enc Try.prog w base spare held m 3 (([c0, c1, c2, c3, c4, c5, c6, c7, c8].drop 6).take (Try.prog.cellsOf 3)) = some y6 := hf 6 _ rfl; rw [cells3] at q; exact q
      have f7 : DataW.trod enc Try.prog w base spare held m 62 [c7, c8] = some y7 := by have q : DataW.trod enc Try.prog w base spare held m 62 (([c0, c1, c2, c3, c4, c5, c6, c7, c8].drop 7).take (Try.prog.cellsOf 62)) = some y7 := hf 7 _ rfl; rw [cells62] at q; exact q
      obtain ⟨p0, e0, _, wf0⟩ := DataW.trod_int Try.underlying60 f0
      obtain ⟨p1, e1⟩ := trod_i64 Try.underlying3 f1
      obtain ⟨p2, e2⟩ := trod_i64 Try.underlying3 f2
      obtain ⟨p3, e3, b3⟩ := trod_str f3 (small_field Try.underlying64 hs (j := 3) rfl rfl)
      obtain ⟨p4, e4, b4⟩ := trod_str f4 (small_field Try.underlying64 hs (j := 4) rfl rfl)
      obtain ⟨p5, e5⟩ := trod_i64 Try.underlying3 f5
      obtain ⟨p6, e6⟩ := trod_i64 Try.underlying3 f6
      obtain ⟨p7, e7⟩ := open_span f7
      cases e0; cases e1; cases e2; cases e3; cases e4; cases e5; cases e6; cases e7
      exact ⟨⟨p0, p1, p2, p3, p4, p5, p6, p7⟩, rfl, b3, b4, wf0⟩
variable {r : Reach} {b0 : Nat} {v : Value} {d : DataW H} {p : List MemPlace}
set_option maxRecDepth 100000 in
/-- A chore, opened. -/
theorem open_chore (hv : Value.okWide Try.prog w r b0 64 v) (h : DataW.Trod enc Try.prog w base spare held 64 v d p) (hs : Small 64 d) : ∃ a : Chore, v = choreVal a ∧ WellC a := by
  simp only [Value.okWide, Try.underlying64] at hv
  obtain ⟨cs, rfl, hsz, _⟩ := hv
  obtain ⟨fuel, hfu⟩ := h
  have hfu' : DataW.trod enc Try.prog w base spare held fuel 64 cs.toList = some (d, p) := by simpa [Value.cells] using hfu
  obtain ⟨a, e, hw⟩ := trod_chore hfu' hs
  exact ⟨a, congrArg Value.agg (Array.ext' e), hw⟩
end
end Go.Proofs.Ytpgkhlpepckfgaa
end
