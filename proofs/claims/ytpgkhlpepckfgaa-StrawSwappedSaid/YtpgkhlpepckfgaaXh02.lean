/-
  An argument that came in, opened: three small numbers. An argument that came in, opened: a store as the walks read it. An argument that came in, opened: a chore as the walks read it. What chores do, one behind the other: plain. What Run has in memory: the farm, the store, and the store behind the chores that are done. Chores in two lists, bundles used at once or one number behind the other: plain laws. No program is walked here. The first store, and what dries: plain laws. No program is walked here. Long: whether chores are more than the laws look at, walked. An argument that came in, opened: a row of chores as the walks read it.
-/
import Derived.Test.YtpgkhlpepckfgaaXa04
import Derived.Test.YtpgkhlpepckfgaaXa10
import Derived.Test.YtpgkhlpepckfgaaXa17
import Derived.Test.YtpgkhlpepckfgaaXa23
import Derived.Test.YtpgkhlpepckfgaaXa26
import Derived.Test.YtpgkhlpepckfgaaXa32
import Derived.Test.YtpgkhlpepckfgaaXh00
import Derived.Test.YtpgkhlpepckfgaaXh01
import Derived.Laws.IdiomArrays
set_option linter.all false
set_option linter.unusedVariables false
set_option linter.unusedSimpArgs false
section
namespace Go.Proofs.Ytpgkhlpepckfgaa
open Go.RowKit Go.Lib Go.ChangeShapes Go.WideShapes
section
variable {H : Type} {enc : TypeId × Value → H} {w : World} {base : Nat} {spare : Nat → Bool} {held : Bool}
variable {r : Reach} {b0 : Nat} {v : Value} {d : DataW H} {p : List MemPlace}
theorem cells35 : Try.prog.cellsOf 35 = 1 := by kernel_rfl
theorem cells36 : Try.prog.cellsOf 36 = 3 := by kernel_rfl
theorem trod_u16 {fuel : Nat} {c : Value} {x : DataW H × List MemPlace} (h : DataW.trod enc Try.prog w base spare held fuel 35 [c] = some x) : ∃ a : Int, c = .int .u16 a ∧ 0 ≤ a ∧ a ≤ 65535 := by
  obtain ⟨n, h1, _, h2⟩ := DataW.trod_int Try.underlying35 h
  cases h1
  simp only [Lit.wf, Bool.and_eq_true, decide_eq_true_eq] at h2
  exact ⟨n, rfl, h2.1, h2.2⟩
set_option maxRecDepth 100000 in
/-- Three numbers of two bytes each, opened. -/
theorem open_three (hv : Value.okWide Try.prog w r b0 36 v) (h : DataW.Trod enc Try.prog w base spare held 36 v d p) : ∃ a0 a1 a2 : Int, v = .agg #[.int .u16 a0, .int .u16 a1, .int .u16 a2] ∧ (0 ≤ a0 ∧ a0 ≤ 65535) ∧ (0 ≤ a1 ∧ a1 ≤ 65535) ∧ (0 ≤ a2 ∧ a2 ≤ 65535) := by
  simp only [Value.okWide, Try.underlying36] at hv
  obtain ⟨cs, rfl, hsz, _⟩ := hv
  rw [cells36] at hsz
  obtain ⟨l⟩ := cs
  match l, hsz with
  | [c0, c1, c2], _ =>
    obtain ⟨fuel, hf⟩ := h
    obtain ⟨y0, y1, y2, n, _, h0, h1, h2⟩ := trod_array3 Try.underlying36 cells35 (c0 := c0) (c1 := c1) (c2 := c2) (by simpa [Value.cells] using hf)
    obtain ⟨a0, rfl, x0⟩ := trod_u16 h0
    obtain ⟨a1, rfl, x1⟩ := trod_u16 h1
    obtain ⟨a2, rfl, x2⟩ := trod_u16 h2
    exact ⟨a0, a1, a2, rfl, x0, x1, x2⟩
end
end Go.Proofs.Ytpgkhlpepckfgaa
end
section
namespace Go.Proofs.Ytpgkhlpepckfgaa
open Go.RowKit Go.Lib Go.ChangeShapes Go.WideShapes
section
variable {H : Type} {enc : TypeId × Value → H} {w : World} {base : Nat} {spare : Nat → Bool} {held : Bool}
theorem cells91 : Try.prog.cellsOf 91 = 2 := by kernel_rfl
theorem cells77 : Try.prog.cellsOf 77 = 7 := by kernel_rfl
theorem cells75 : Try.prog.cellsOf 75 = 1 := by kernel_rfl
theorem cells41 : Try.prog.cellsOf 41 = 1 := by kernel_rfl
theorem cells40 : Try.prog.cellsOf 40 = 1 := by kernel_rfl
theorem cells29 : Try.prog.cellsOf 29 = 1 := by kernel_rfl
theorem cells43 : Try.prog.cellsOf 43 = 6 := by kernel_rfl
set_option maxRecDepth 100000 in
theorem open_portion {n : Nat} {cs : List Value} {x : DataW H × List MemPlace} (h : DataW.trod enc Try.prog w base spare held n 91 cs = some x) : ∃ p : Portion, cs = encPortion p := by
  obtain ⟨xs, m, _, rfl, hl, hx, hf⟩ := DataW.trod_struct Try.underlying91 h
  rw [cells91] at hl
  match cs, hl with
  | [a, b], _ =>
    match xs, hx with
    | [y0, y1], _ =>
      have f0 : DataW.trod enc Try.prog w base spare held m 3 [a] = some y0 := by have q : DataW.trod enc Try.prog w base spare held m 3 (([a, b].drop 0).take (Try.prog.cellsOf 3)) = some y0 := hf 0 _ rfl; rw [cells3] at q; exact q
      have f1 : DataW.trod enc Try.prog w base spare held m 3 [b] = some y1 := by have q : DataW.trod enc Try.prog w base spare held m 3 (([a, b].drop 1).take (Try.prog.cellsOf 3)) = some y1 := hf 1 _ rfl; rw [cells3] at q; exact q
      obtain ⟨p, e0⟩ := trod_i64 Try.underlying3 f0
      obtain ⟨q, e1⟩ := trod_i64 Try.underlying3 f1
      cases e0; cases e1
      exact ⟨⟨p, q⟩, rfl⟩
set_option maxRecDepth 100000 in
theorem open_parts {fuel : Nat} {v : Value} {y : DataW H × List MemPlace} (h : DataW.trod enc Try.prog w base spare held fuel 41 [v] = some y) (hs : Small 41 y.1) :
    ∃ A c, ∃ l : List Portion, v = .slice A l.length c ∧ RdParts w A l := by
  obtain ⟨A, c, l, e, hr, hq⟩ := open_flat (Q := fun _ : Portion => True) Try.underlying41 cells91 (enc' := encPortion) (fun _ => rfl) (of_decide_eq_true (by kernel_rfl)) (fun n cs x hx hsx => (open_portion hx).imp fun i e => ⟨e, trivial⟩) h hs
  exact ⟨A, c, l, e, hr⟩
set_option maxRecDepth 100000 in
theorem open_heap {n : Nat} {cs : List Value} {x : DataW H × List MemPlace} (h : DataW.trod enc Try.prog w base spare held n 77 cs = some x) (hs : Small 77 x.1) : ∃ p : Heap, cs = encHeap p ∧ RdParts w p.pa p.parts ∧ p.name.size ≤ 140737488351232 := by
  obtain ⟨xs, m, _, rfl, hl, hx, hf⟩ := DataW.trod_struct Try.underlying77 h
  rw [cells77] at hl
  match cs, hl with
  | [c0, c1, c2, c3, c4, c5, c6], _ =>
    match xs, hx with
    | [y0, y1, y2, y3, y4, y5], _ =>
      have f0 : DataW.trod enc Try.prog w base spare held m 9 [c0] = some y0 := by have q : DataW.trod enc Try.prog w base spare held m 9 (([c0, c1, c2, c3, c4, c5, c6].drop 0).take (Try.prog.cellsOf 9)) = some y0 := hf 0 _ rfl; rw [cells9] at q; exact q
      have f1 : DataW.trod enc Try.prog w base spare held m 74 [c1] = some y1 := by have q : DataW.trod enc Try.prog w base spare held m 74 (([c0, c1, c2, c3, c4, c5, c6].drop 1).take (Try.prog.cellsOf 74)) = some y1 := hf 1 _ rfl; rw [cells74] at q; exact q
      have f2 : DataW.trod enc Try.prog w base spare held m 75 [c2] = some y2 := by have q : DataW.trod enc Try.prog w base spare held m 75 (([c0, c1, c2, c3, c4, c5, c6].drop 2).take (Try.prog.cellsOf 75)) = some y2 := hf 2 _ rfl; rw [cells75] at q; exact q
      have f3 : DataW.trod enc Try.prog w base spare held m 41 [c3] = some y3 := by have q : DataW.trod enc Try.prog w base spare held m 41 (([c0, c1, c2, c3, c4, c5, c6].drop 3).take (Try.prog.cellsOf 41)) = some y3 := hf 3 _ rfl; rw [cells41] at q; exact q
      have f4 : DataW.trod enc Try.prog w base spare held m 3 [c4] = some y4 := by have q : DataW.trod enc Try.prog w base spare held m 3 (([c0, c1, c2, c3, c4, c5, c6].drop 4).take (Try.prog.cellsOf 3)) = some y4 := hf 4 _ rfl; rw [cells3] at q; exact q
      have f5 : DataW.trod enc Try.prog w base spare held m 62 [c5, c6] = some y5 := by have q : DataW.trod enc Try.prog w base spare held m 62 (([c0, c1, c2, c3, c4, c5, c6].drop 5).take (Try.prog.cellsOf 62)) = some y5 := hf 5 _ rfl; rw [cells62] at q; exact q
      obtain ⟨s, e0, d0, _⟩ := DataW.trod_string Try.underlying9 f0
      obtain ⟨p1, e1⟩ := trod_i64 Try.underlying74 f1
      obtain ⟨p2, e2⟩ := trod_i64 Try.underlying75 f2
      obtain ⟨A, c, l, e3, hr⟩ := open_parts f3 (small_field Try.underlying77 hs (j := 3) rfl rfl)
      obtain ⟨p4, e4⟩ := trod_i64 Try.underlying3 f4
      obtain ⟨s5, e5⟩ := open_span f5
      cases e0; cases e1; cases e2; cases e3; cases e4; cases e5
      refine ⟨⟨s, p1, p2, l, p4, s5, A, c⟩, rfl, hr, ?_⟩
      have h0 : Small 9 y0.1 := small_field Try.underlying77 hs (j := 0) rfl rfl
      have d0' : y0.1 = .lit (.string s.data.toList) := by rw [d0]
      rw [d0'] at h0
      have := h0 s.data.toList.length (by simp [DataW.weights])
      simpa using this
set_option maxRecDepth 100000 in
theorem open_heaps {fuel : Nat} {v : Value} {y : DataW H × List MemPlace} (h : DataW.trod enc Try.prog w base spare held fuel 40 [v] = some y) (hs : Small 40 y.1) :
    ∃ A c, ∃ l : List Heap, v = .slice A l.length c ∧ RdHeaps w A l := by
  obtain ⟨A, c, l, e, hr, hq⟩ := open_flat (Q := fun p : Heap => RdParts w p.pa p.parts ∧ p.name.size ≤ 140737488351232) Try.underlying40 cells77 (enc' := encHeap) (fun _ => rfl) (of_decide_eq_true (by kernel_rfl)) (fun n cs x hx hsx => open_heap hx hsx) h hs
  exact ⟨A, c, l, e, hr, hq⟩
variable {r : Reach} {b0 : Nat} {v : Value} {d : DataW H} {p : List MemPlace}
set_option maxRecDepth 100000 in
/-- A store, opened. -/
theorem open_store (hv : Value.okWide Try.prog w r b0 43 v) (h : DataW.Trod enc Try.prog w base spare held 43 v d p) (hs : Small 43 d) : ∃ s : Store, v = storeVal s ∧ RdStore w s := by
  simp only [Value.okWide, Try.underlying43] at hv
  obtain ⟨cs, rfl, hsz, _⟩ := hv
  rw [cells43] at hsz
  obtain ⟨l⟩ := cs
  match l, hsz with
  | [c0, c1, c2, c3, c4, c5], _ =>
    obtain ⟨fuel, hfu⟩ := h
    have hfu' : DataW.trod enc Try.prog w base spare held fuel 43 [c0, c1, c2, c3, c4, c5] = some (d, p) := by simpa [Value.cells] using hfu
    obtain ⟨xs, m, _, hxs, hl, hx, hf⟩ := DataW.trod_struct Try.underlying43 hfu'
    match xs, hx with
    | [y0, y1, y2, y3, y4, y5], _ =>
      have hd : d = .agg [y0.1, y1.1, y2.1, y3.1, y4.1, y5.1] := by have := congrArg Prod.fst hxs; simpa using this
      subst hd
      have f0 : DataW.trod enc Try.prog w base spare held m 3 [c0] = some y0 := by have q : DataW.trod enc Try.prog w base spare held m 3 (([c0, c1, c2, c3, c4, c5].drop 0).take (Try.prog.cellsOf 3)) = some y0 := hf 0 _ rfl; rw [cells3] at q; exact q
      have f1 : DataW.trod enc Try.prog w base spare held m 29 [c1] = some y1 := by have q : DataW.trod enc Try.prog w base spare held m 29 (([c0, c1, c2, c3, c4, c5].drop 1).take (Try.prog.cellsOf 29)) = some y1 := hf 1 _ rfl; rw [cells29] at q; exact q
      have f2 : DataW.trod enc Try.prog w base spare held m 29 [c2] = some y2 := by have q : DataW.trod enc Try.prog w base spare held m 29 (([c0, c1, c2, c3, c4, c5].drop 2).take (Try.prog.cellsOf 29)) = some y2 := hf 2 _ rfl; rw [cells29] at q; exact q
      have f3 : DataW.trod enc Try.prog w base spare held m 40 [c3] = some y3 := by have q : DataW.trod enc Try.prog w base spare held m 40 (([c0, c1, c2, c3, c4, c5].drop 3).take (Try.prog.cellsOf 40)) = some y3 := hf 3 _ rfl; rw [cells40] at q; exact q
      have f4 : DataW.trod enc Try.prog w base spare held m 41 [c4] = some y4 := by have q : DataW.trod enc Try.prog w base spare held m 41 (([c0, c1, c2, c3, c4, c5].drop 4).take (Try.prog.cellsOf 41)) = some y4 := hf 4 _ rfl; rw [cells41] at q; exact q
      have f5 : DataW.trod enc Try.prog w base spare held m 41 [c5] = some y5 := by have q : DataW.trod enc Try.prog w base spare held m 41 (([c0, c1, c2, c3, c4, c5].drop 5).take (Try.prog.cellsOf 41)) = some y5 := hf 5 _ rfl; rw [cells41] at q; exact q
      obtain ⟨yr, e0⟩ := trod_i64 Try.underlying3 f0
      obtain ⟨A1, k1, l1, e1, r1⟩ := open_intsR f1 (small_field Try.underlying43 hs (j := 1) rfl rfl)
      obtain ⟨A2, k2, l2, e2, r2⟩ := open_intsR f2 (small_field Try.underlying43 hs (j := 2) rfl rfl)
      obtain ⟨A3, k3, l3, e3, r3⟩ := open_heaps f3 (small_field Try.underlying43 hs (j := 3) rfl rfl)
      obtain ⟨A4, k4, l4, e4, r4⟩ := open_parts f4 (small_field Try.underlying43 hs (j := 4) rfl rfl)
      obtain ⟨A5, k5, l5, e5, r5⟩ := open_parts f5 (small_field Try.underlying43 hs (j := 5) rfl rfl)
      cases e0; subst e1 e2 e3 e4 e5
      exact ⟨⟨yr, l1, l2, l3, l4, l5, A1, k1, A2, k2, A3, k3, A4, k4, A5, k5⟩, rfl, r1, r2, r3, r4, r5⟩
end
end Go.Proofs.Ytpgkhlpepckfgaa
end
section
namespace Go.Proofs.Ytpgkhlpepckfgaa
open Go.RowKit Go.Lib Go.ChangeShapes Go.WideShapes
section
variable {H : Type} {enc : TypeId × Value → H} {w : World} {base : Nat} {spare : Nat → Bool} {held : Bool}
theorem cells64 : Try.prog.cellsOf 64 = 9 := by kernel_rfl
theorem cells60 : Try.prog.cellsOf 60 = 1 := by kernel_rfl
theorem trod_str {fuel : Nat} {cs : List Value} {y : DataW H × List MemPlace} (h : DataW.trod enc Try.prog w base spare held fuel 9 cs = some y) (hs : Small 9 y.1) : ∃ s : ByteArray, cs = [.string s] ∧ s.size ≤ 140737488351232 := by
  obtain ⟨s, e0, d0, _⟩ := DataW.trod_string Try.underlying9 h
  refine ⟨s, e0, ?_⟩
  have d0' : y.1 = .lit (.string s.data.toList) := by rw [d0]
  rw [d0'] at hs
  have := hs s.data.toList.length (by simp [DataW.weights])
  simpa using this
/-- What a chore that came in keeps to. -/
def WellC (a : Chore) : Prop := a.name.size ≤ 140737488351232 ∧ a.other.size ≤ 140737488351232 ∧ (Lit.int .i64 a.kind).wf = true
set_option maxRecDepth 100000 in
theorem trod_chore {n : Nat} {cs : List Value} {x : DataW H × List MemPlace} (h : DataW.trod enc Try.prog w base spare held n 64 cs = some x) (hs : Small 64 x.1) : ∃ a : Chore, cs = (choreCells a).toList ∧ WellC a := by
  obtain ⟨xs, m, _, rfl, hl, hx, hf⟩ := DataW.trod_struct Try.underlying64 h
  rw [cells64] at hl
  match cs, hl with
  | [c0, c1, c2, c3, c4, c5, c6, c7, c8], _ =>
    match xs, hx with
    | [y0, y1, y2, y3, y4, y5, y6, y7], _ =>
      have f0 : DataW.trod enc Try.prog w base spare held m 60 [c0] = some y0 := by have q : DataW.trod enc Try.prog w base spare held m 60 (([c0, c1, c2, c3, c4, c5, c6, c7, c8].drop 0).take (Try.prog.cellsOf 60)) = some y0 := hf 0 _ rfl; rw [cells60] at q; exact q
      have f1 : DataW.trod enc Try.prog w base spare held m 3 [c1] = some y1 := by have q : DataW.trod enc Try.prog w base spare held m 3 (([c0, c1, c2, c3, c4, c5, c6, c7, c8].drop 1).take (Try.prog.cellsOf 3)) = some y1 := hf 1 _ rfl; rw [cells3] at q; exact q
      have f2 : DataW.trod enc Try.prog w base spare held m 3 [c2] = some y2 := by have q : DataW.trod enc Try.prog w base spare held m 3 (([c0, c1, c2, c3, c4, c5, c6, c7, c8].drop 2).take (Try.prog.cellsOf 3)) = some y2 := hf 2 _ rfl; rw [cells3] at q; exact q
      have f3 : DataW.trod enc Try.prog w base spare held m 9 [c3] = some y3 := by have q : DataW.trod enc Try.prog w base spare held m 9 (([c0, c1, c2, c3, c4, c5, c6, c7, c8].drop 3).take (Try.prog.cellsOf 9)) = some y3 := hf 3 _ rfl; rw [cells9] at q; exact q
      have f4 : DataW.trod enc Try.prog w base spare held m 9 [c4] = some y4 := by have q : DataW.trod enc Try.prog w base spare held m 9 (([c0, c1, c2, c3, c4, c5, c6, c7, c8].drop 4).take (Try.prog.cellsOf 9)) = some y4 := hf 4 _ rfl; rw [cells9] at q; exact q
      have f5 : DataW.trod enc Try.prog w base spare held m 3 [c5] = some y5 := by have q : DataW.trod enc Try.prog w base spare held m 3 (([c0, c1, c2, c3, c4, c5, c6, c7, c8].drop 5).take (Try.prog.cellsOf 3)) = some y5 := hf 5 _ rfl; rw [cells3] at q; exact q
      have f6 : DataW.trod enc Try.prog w base spare held m 3 [c6] = some y6 := by have q : DataW.trod enc Try.prog w base spare held m 3 (([c0, c1, c2, c3, c4, c5, c6, c7, c8].drop 6).take (Try.prog.cellsOf 3)) = some y6 := hf 6 _ rfl; rw [cells3] at q; exact q
      have f7 : DataW.trod enc Try.prog w base spare held m 62 [c7, c8] = some y7 := by have q : DataW.trod enc Try.prog w base spare held m 62 (([c0, c1, c2, c3, c4, c5, c6, c7, c8].drop 7).take (Try.prog.cellsOf 62)) = some y7 := hf 7 _ rfl; rw [cells62] at q; exact q
      obtain ⟨p0, e0, _, wf0⟩ := DataW.trod_int Try.underlying60 f0
      obtain ⟨p1, e1⟩ := trod_i64 Try.underlying3 f1
      obtain ⟨p2, e2⟩ := trod_i64 Try.underlying3 f2
      obtain ⟨p3, e3, b3⟩ := trod_str f3 (small_field Try.underlying64 hs (j := 3) rfl rfl)
      obtain ⟨p4, e4, b4⟩ := trod_str f4 (small_field Try.underlying64 hs (j := 4) rfl rfl)
      obtain ⟨p5, e5⟩ := trod_i64 Try.underlying3 f5
      obtain ⟨p6, e6⟩ := trod_i64 Try.underlying3 f6
      obtain ⟨p7, e7⟩ := open_span f7
      cases e0; cases e1; cases e2; cases e3; cases e4; cases e5; cases e6; cases e7
      exact ⟨⟨p0, p1, p2, p3, p4, p5, p6, p7⟩, rfl, b3, b4, wf0⟩
variable {r : Reach} {b0 : Nat} {v : Value} {d : DataW H} {p : List MemPlace}
set_option maxRecDepth 100000 in
/-- A chore, opened. -/
theorem open_chore (hv : Value.okWide Try.prog w r b0 64 v) (h : DataW.Trod enc Try.prog w base spare held 64 v d p) (hs : Small 64 d) : ∃ a : Chore, v = choreVal a ∧ WellC a := by
  simp only [Value.okWide, Try.underlying64] at hv
  obtain ⟨cs, rfl, hsz, _⟩ := hv
  obtain ⟨fuel, hfu⟩ := h
  have hfu' : DataW.trod enc Try.prog w base spare held fuel 64 cs.toList = some (d, p) := by simpa [Value.cells] using hfu
  obtain ⟨a, e, hw⟩ := trod_chore hfu' hs
  exact ⟨a, congrArg Value.agg (Array.ext' e), hw⟩
end
end Go.Proofs.Ytpgkhlpepckfgaa
end
section
namespace Go.Proofs.Ytpgkhlpepckfgaa
open Go.RowKit Go.Lib

def encChore (a : Chore) : List Value := (choreCells a).toList
def RdChores (w : World) (B : Option Addr) (l : List Chore) : Prop := FlatRow encChore 9 w B l ∧ ∀ a ∈ l, WellC a
theorem RdChores.below {w w1 : World} {A : Option Addr} {l : List Chore} (h : RdChores w A l) (hb : Below w.heap.size w w1) : RdChores w1 A l := ⟨FlatRow.below h.1 hb, h.2⟩
/-- The store behind chores that may be done, how many are done, and what is wrong with the next one. -/
def runL (pl : List Plot) (dry : Int) : Store → List Chore → Store × Int × Int
  | s, [] => (s, 0, 0)
  | s, a :: l => if (doP pl dry s a).1 = 0 then ((runL pl dry (doP pl dry s a).2 l).1, (runL pl dry (doP pl dry s a).2 l).2.1 + 1, (runL pl dry (doP pl dry s a).2 l).2.2) else (s, 0, (doP pl dry s a).1)
def runP (pl : List Plot) (dry : Int) (s : Store) (l : List Chore) : Store × Int × Int :=
  if checkS pl dry s ≠ 0 then (noStore, 0, checkS pl dry s) else if 200 < l.length then (noStore, 0, 3) else runL pl dry s l
def Same3 (x y : Store × Int × Int) : Prop := x.2 = y.2 ∧ SameC x.1 y.1
theorem SameC.runL {pl : List Plot} {dry : Int} : ∀ (l : List Chore) {s t : Store}, SameC s t → Same3 (runL pl dry s l) (runL pl dry t l)
  | [], _, _, h => ⟨rfl, h⟩
  | a :: l, s, t, h => by
    have d := h.doP pl dry a
    unfold Go.Proofs.Ytpgkhlpepckfgaa.runL
    rw [d.1]
    split
    · have ih := SameC.runL (pl := pl) (dry := dry) l d.2
      exact ⟨by rw [ih.1], ih.2⟩
    · exact ⟨rfl, h⟩
theorem SameC.runP {pl : List Plot} {dry : Int} {s t : Store} (h : SameC s t) (l : List Chore) : Same3 (runP pl dry s l) (runP pl dry t l) := by
  unfold Go.Proofs.Ytpgkhlpepckfgaa.runP
  rw [h.checkS]
  split
  · exact ⟨rfl, SameC.refl _⟩
  split
  · exact ⟨rfl, SameC.refl _⟩
  · exact h.runL l
/-- Where the loop stands: k chores are done, u is the store behind them. -/
structure RunI (pl : List Plot) (dry : Int) (s : Store) (l : List Chore) (k : Nat) (u : Store) : Prop where
  run : runL pl dry s l = ((runL pl dry u (l.drop k)).1, (runL pl dry u (l.drop k)).2.1 + k, (runL pl dry u (l.drop k)).2.2)
  ok : checkS pl dry u = 0
section
variable {pl : List Plot} {dry : Int} {s u t : Store} {l : List Chore} {k : Nat}
theorem RunI.start (h : checkS pl dry s = 0) (e : SameC u s) : ∃ v, SameC u v ∧ RunI pl dry s l 0 v := ⟨s, e, ⟨by simp, h⟩⟩
theorem RunI.step (h : RunI pl dry s l k u) (e : SameC t u) (hk : k < l.length) (h0 : (doP pl dry t l[k]).1 = 0) : RunI pl dry s l (k + 1) (doP pl dry u l[k]).2 := by
  have d := e.doP pl dry l[k]
  rw [d.1] at h0
  refine ⟨?_, (do_ok h0).2.1⟩
  rw [h.run, List.drop_eq_getElem_cons hk]
  show (((if (doP pl dry u l[k]).1 = 0 then _ else _) : Store × Int × Int).1, _, _) = _
  rw [runL, if_pos h0]
  simp only [Prod.mk.injEq, true_and, and_true]
  omega
theorem RunI.stop (h : RunI pl dry s l k u) (e : SameC t u) (hk : k < l.length) (h0 : (doP pl dry t l[k]).1 ≠ 0) : runL pl dry s l = (u, (k : Int), (doP pl dry t l[k]).1) := by
  have d := e.doP pl dry l[k]
  rw [d.1] at h0 ⊢
  rw [h.run, List.drop_eq_getElem_cons hk, runL, if_neg h0]
  simp
theorem RunI.done (h : RunI pl dry s l k u) (hk : l.length ≤ k) : runL pl dry s l = (u, (k : Int), 0) := by
  rw [h.run, List.drop_eq_nil_of_le hk, runL]
  simp
theorem RunI.lens (h : RunI pl dry s l k u) (e : SameC t u) : t.used.length ≤ 1000000 ∧ t.waste.length ≤ 1000000 ∧ ∀ x ∈ t.heaps, x.parts.length ≤ 1000000 := by
  have := h.ok
  rw [← e.checkS] at this
  obtain ⟨a, b, c⟩ := (check_ok this).lens
  exact ⟨by omega, by omega, fun x hx => by have := c x hx; omega⟩
end
end Go.Proofs.Ytpgkhlpepckfgaa
end
section
namespace Go.Proofs.Ytpgkhlpepckfgaa
open Go.RowKit Go.Lib

/-- What Run hands back. -/
def RunOut (r : Store × Int × Int) (w : World) (e : Ending) (w' : World) : Prop := ∃ t, e = .returned (.tuple #[storeVal t, .int .i64 r.2.1, .int .i64 r.2.2]) ∧ SameC t r.1 ∧ RdStore w' t ∧ Below w.heap.size w w' ∧ FreshS w.heap.size t
theorem RdParts.apartS {W : World} {A : Option Addr} {l : List Portion} (h : RdParts W A l) (hl : l ≠ []) {k b : Nat} {t : Store} (hk : blk A = some k) (h6 : W.heap[b]? = some (.cells (storeCells t) 43 (0, 0))) : k ≠ b := by
  obtain ⟨o, a, b, e0, e1⟩ := h.two hl hk
  rintro rfl
  simp only [World.cell?, h6] at e0 e1
  rcases o with _ | _ | _ | _ | _ | _ | o <;> simp at e0 e1
/-- A store whose rows lie apart from another one's block reads the same when this is written. -/
theorem RdStore.over {W W' : World} {u t : Store} {B b : Nat} (h : RdStore W u) (hf : FreshS B u) (hb : b < B) (h6 : W.heap[b]? = some (.cells (storeCells t) 43 (0, 0))) (hk : ∀ k, k ≠ b → W'.heap[k]? = W.heap[k]?) : RdStore W' u := by
  have hp : ∀ {A : Option Addr} {l : List Portion}, RdParts W A l → RdParts W' A l := fun hr => hr.keep fun k hl e => hk k (hr.apartS hl e h6)
  refine ⟨FlatRow.keep h.last fun k _ e => ?_, FlatRow.keep h.given fun k _ e => ?_, ⟨FlatRow.keep h.heaps.1 fun k _ e => ?_, fun g hg => ⟨hp (h.heaps.2 g hg).1, (h.heaps.2 g hg).2⟩⟩, hp h.used, hp h.waste⟩
  · have := hf k (.inl e); exact hk k (by omega)
  · have := hf k (.inr (.inl e)); exact hk k (by omega)
  · have := hf k (.inr (.inr e)); exact hk k (by omega)
/-- A store's variable is written. -/
abbrev putS (W : World) (b : Nat) (u : Store) : World := (((((W.setCell ⟨b, 0, none⟩ (.int .i64 u.year)).setCell ⟨b, 1, none⟩ (.slice u.la u.last.length u.lc)).setCell ⟨b, 2, none⟩ (.slice u.ga u.given.length u.gc)).setCell ⟨b, 3, none⟩ (.slice u.ha u.heaps.length u.hc)).setCell ⟨b, 4, none⟩ (.slice u.ua u.used.length u.uc)).setCell ⟨b, 5, none⟩ (.slice u.wa u.waste.length u.wc)
theorem putS_size (W : World) (b : Nat) (u : Store) : (putS W b u).heap.size = W.heap.size := by simp only [putS, set_size]
/-- What Run has laid: the farm, the store, and the store behind the chores that are done. -/
structure RnX (w : World) (A : Option Addr) (c : Nat) (pl : List Plot) (dry : Int) (s t : Store) (W : World) : Prop where
  below : Below w.heap.size w W
  farm : W.heap[w.heap.size]? = some (.cells #[.slice A pl.length c, .int .i64 dry] 24 (0, 0))
  store : W.heap[w.heap.size + 1]? = some (.cells (storeCells s) 43 (0, 0))
  after : W.heap[w.heap.size + 1 + 1]? = some (.cells (storeCells t) 43 (0, 0))
  size : w.heap.size + 3 ≤ W.heap.size
  rd : RdStore W t
  fresh : FreshS (w.heap.size + 3) t
section
variable {w : World} {A : Option Addr} {c : Nat} {pl : List Plot} {dry : Int} {s t u : Store} {W W' : World}
theorem RnX.make : RnX w A c pl dry s noStore (((w.alloc (.cells #[.slice A pl.length c, .int .i64 dry] 24)).alloc (.cells (storeCells s) 43)).alloc (.cells (storeCells noStore) 43)) := by
  refine ⟨(((Below.refl _ w).alloc (Nat.le_refl _) _).alloc (by simp) _).alloc (by simp; omega) _, ?_, ?_, ?_, by simp, rd_noStore _, fresh_none _⟩
  · exact heap_old _ _ _ _ (heap_old _ _ _ _ (heap_new _ _ _ rfl))
  · exact heap_old _ _ _ _ (heap_new _ _ _ (by simp))
  · exact heap_new _ _ _ (by simp)
theorem RnX.later (h : RnX w A c pl dry s t W) (hb : Below W.heap.size W W') : RnX w A c pl dry s t W' := by
  have hz := h.size
  exact ⟨h.below.trans (hb.mono h.below.size), (hb.block _ (by omega)).trans h.farm, (hb.block _ (by omega)).trans h.store, (hb.block _ (by omega)).trans h.after, Nat.le_trans hz hb.size, h.rd.below hb, h.fresh⟩
/-- The store behind the chores is written. -/
theorem RnX.put (h : RnX w A c pl dry s t W) (hr : RdStore W u) {B : Nat} (hB : w.heap.size + 3 ≤ B) (hf : FreshS B u) : RnX w A c pl dry s u (putS W (w.heap.size + 1 + 1) u) := by
  have hz := h.size
  refine ⟨set6_below _ _ _ _ _ _ h.below (by omega), (set6_other _ _ _ _ _ _ (by omega)).trans h.farm, (set6_other _ _ _ _ _ _ (by omega)).trans h.store, set6 _ _ _ _ _ _ h.after, by rw [putS_size]; exact hz, hr.over hf (by omega) h.after fun k hk => set6_other _ _ _ _ _ _ hk, fun k e => by have := hf k e; omega⟩
theorem results_run {fn : Func} {p q x : Tmp} (hf : fn.results = #[.cell p 43, .tmp q, .tmp x]) {tmps : Array Value} {b : Nat} {n e : Int} (hp : tmps.getD p undef = ptr b) (hq : tmps.getD q undef = .int .i64 n) (hx : tmps.getD x undef = .int .i64 e) {u : Store} {W : World} (h : W.heap[b]? = some (.cells (storeCells u) 43 (0, 0))) :
    (results fn tmps).run Try.prog W = .ok (.tuple #[storeVal u, .int .i64 n, .int .i64 e]) W := by
  obtain ⟨c0, c1, c2, c3, c4, c5⟩ := six_cells h
  have hp' : tmps[p]?.getD undef = .pointer (some ⟨b, 0, none⟩) := by simpa using hp
  have hq' : tmps[q]?.getD undef = .int .i64 n := by simpa using hq
  have hx' : tmps[x]?.getD undef = .int .i64 e := by simpa using hx
  simp [results, hf, hp', hq', hx', asAddr, go_sem, c0, c1, c2, c3, c4, c5]
theorem RnX.wrong (h : RnX w A c pl dry s t W) {l : List Chore} {e : Int} (hr : runP pl dry s l = (noStore, 0, e)) {fn : Func} {p q x : Tmp} (hf : fn.results = #[.cell p 43, .tmp q, .tmp x]) {tmps : Array Value} (hp : tmps.getD p undef = ptr (w.heap.size + 1 + 1)) (hq : tmps.getD q undef = .int .i64 0) (hx : tmps.getD x undef = .int .i64 e) :
    bodyPost Try.prog fn (RunOut (runP pl dry s l) w) .ret { tmps := tmps, defers := [] } (putS W (w.heap.size + 1 + 1) noStore) := by
  have hX := h.put (u := noStore) (rd_noStore _) (Nat.le_refl _) (fresh_none _)
  refine bodyPost_ret (results_run hf hp hq hx hX.after) rfl ?_
  rw [hr]
  exact ⟨noStore, rfl, SameC.refl _, hX.rd, hX.below, fresh_none _⟩
theorem RnX.right (h : RnX w A c pl dry s t W) {v : Store} (hs : SameC t v) {l : List Chore} {n e : Int} (hr : runP pl dry s l = (v, n, e)) {fn : Func} {p q x : Tmp} (hf : fn.results = #[.cell p 43, .tmp q, .tmp x]) {tmps : Array Value} (hp : tmps.getD p undef = ptr (w.heap.size + 1 + 1)) (hq : tmps.getD q undef = .int .i64 n) (hx : tmps.getD x undef = .int .i64 e) :
    bodyPost Try.prog fn (RunOut (runP pl dry s l) w) .ret { tmps := tmps, defers := [] } (putS W (w.heap.size + 1 + 1) t) := by
  have hz := h.size
  have hX := h.put h.rd (Nat.le_refl _) h.fresh
  refine bodyPost_ret (results_run hf hp hq hx hX.after) rfl ?_
  rw [hr]
  exact ⟨t, rfl, hs, hX.rd, hX.below, fun k e => by have := hX.fresh k e; omega⟩
end
theorem twinC_any (pl : List Plot) (dry : Int) (s : Store) (w : World) (hs : RdStore w s) (hk : checkS pl dry s = 0) (hu : s.used.length ≤ 1000000) (hw : s.waste.length ≤ 1000000) (hh : ∀ x ∈ s.heaps, x.parts.length ≤ 1000000) :
    Calls Try.prog 76 #[storeVal s] w fun e w' => ∃ t, e = .returned (storeVal t) ∧ SameC t s ∧ RdStore w' t ∧ Below w.heap.size w w' ∧ FreshS w.heap.size t :=
  (twin_any s w hs (good_do hk hu hw hh).mildS).mono (by
    rintro e w' ⟨t, rfl, hst, hR, hb⟩
    exact ⟨t, rfl, hst.symm, hR.store, hb, hR.fresh (Nat.le_refl _)⟩)
end Go.Proofs.Ytpgkhlpepckfgaa
end
section
namespace Go.Proofs.Ytpgkhlpepckfgaa
open Go.RowKit Go.Lib
section
variable {pl : List Plot} {dry : Int}
theorem runL_cons (s : Store) (a : Chore) (l : List Chore) : runL pl dry s (a :: l) = if (doP pl dry s a).1 = 0 then ((runL pl dry (doP pl dry s a).2 l).1, (runL pl dry (doP pl dry s a).2 l).2.1 + 1, (runL pl dry (doP pl dry s a).2 l).2.2) else (s, 0, (doP pl dry s a).1) := rfl
theorem runL_bounds : ∀ (l : List Chore) (s : Store), 0 ≤ (runL pl dry s l).2.1 ∧ (runL pl dry s l).2.1 ≤ l.length ∧ ((runL pl dry s l).2.2 = 0 ↔ (runL pl dry s l).2.1 = l.length)
  | [], s => by simp [runL]
  | a :: l, s => by
    obtain ⟨h1, h2, h3⟩ := runL_bounds l (doP pl dry s a).2
    rw [runL_cons, List.length_cons]
    split
    · dsimp only
      refine ⟨by omega, by omega, ?_⟩
      rw [h3]; omega
    · dsimp only
      refine ⟨by omega, by omega, ?_⟩
      constructor
      · intro h; contradiction
      · intro h; omega
theorem runL_check : ∀ (l : List Chore) (s : Store), checkS pl dry s = 0 → checkS pl dry (runL pl dry s l).1 = 0
  | [], s, h => h
  | a :: l, s, h => by
    rw [runL_cons]
    split
    case isTrue h0 => exact runL_check l _ (do_ok h0).2.1
    case isFalse h0 => exact h
theorem runL_zero : ∀ (l : List Chore) (s : Store), (runL pl dry s l).2.1 = 0 → (runL pl dry s l).1 = s
  | [], s, _ => rfl
  | a :: l, s, h => by
    rw [runL_cons] at h ⊢
    split at h
    · have := (runL_bounds (pl := pl) (dry := dry) l (doP pl dry s a).2).1
      dsimp only at h; omega
    case isFalse h0 => rw [if_neg h0]
theorem runL_split : ∀ (k : Nat) (l : List Chore) (s : Store), (k : Int) ≤ (runL pl dry s l).2.1 →
    (runL pl dry s (l.take k)).2 = ((k : Int), 0) ∧ runL pl dry (runL pl dry s (l.take k)).1 (l.drop k) = ((runL pl dry s l).1, (runL pl dry s l).2.1 - k, (runL pl dry s l).2.2)
  | 0, l, s, _ => by simp [runL]
  | k + 1, [], s, h => by simp only [runL] at h; omega
  | k + 1, a :: l, s, h => by
    rw [runL_cons] at h
    by_cases h0 : (doP pl dry s a).1 = 0
    · rw [if_pos h0] at h
      dsimp only at h
      obtain ⟨i1, i2⟩ := runL_split k l (doP pl dry s a).2 (by omega)
      rw [List.take_succ_cons, List.drop_succ_cons, runL_cons s a l, if_pos h0, runL_cons, if_pos h0]
      dsimp only
      rw [i1, i2]
      refine ⟨by simp, ?_⟩
      simp only [Prod.mk.injEq, true_and, and_true]
      omega
    · rw [if_neg h0] at h
      dsimp only at h
      omega
/-- All at once, or up to where they went: the same store. -/
theorem runL_ahead {l : List Chore} {s : Store} {n : Nat} (h : (runL pl dry s l).2.1 = n) : runL pl dry s (l.take n) = ((runL pl dry s l).1, (n : Int), 0) := by
  obtain ⟨i1, i2⟩ := runL_split (pl := pl) (dry := dry) n l s (by omega)
  have h0 : (runL pl dry (runL pl dry s (l.take n)).1 (l.drop n)).2.1 = 0 := by rw [i2]; show (runL pl dry s l).2.1 - (n : Int) = 0; omega
  have e := runL_zero _ _ h0
  rw [i2] at e
  exact Prod.ext e.symm i1
theorem add_add (u : List Portion) (p : Int) (n m : Int) : addPart (addPart u ⟨p, n⟩) ⟨p, m⟩ = addPart u ⟨p, n + m⟩ := by
  rcases List.eq_nil_or_concat u with rfl | ⟨u0, q, rfl⟩
  · have e : addPart [] (⟨p, n⟩ : Portion) = [] ++ [⟨p, n⟩] := add_nil _
    rw [e, add_snoc, if_pos rfl, add_nil]; rfl
  · rw [List.concat_eq_append, add_snoc, add_snoc]
    by_cases h : q.plot = p
    · rw [if_pos h, if_pos h, add_snoc, if_pos h]
      dsimp only
      rw [Int.add_assoc]
    · rw [if_neg h, if_neg h, add_snoc, if_pos rfl]
theorem behindP_cons (u : List Portion) (p : Portion) (l : List Portion) : behindP u (p :: l) = behindP (addPart u p) l := rfl
theorem cut_zero' {l : List Portion} (h : Pos l) {n : Int} (hn : n = 0) : cutF l n = [] ∧ cutR l n = l := by subst hn; exact cut_zero h
/-- Cut twice is cut once. -/
theorem cut_cut : ∀ (l u : List Portion) (n m : Int), Pos l → 0 ≤ n → 0 ≤ m → cutR (cutR l n) m = cutR l (n + m) ∧ behindP (behindP u (cutF l n)) (cutF (cutR l n) m) = behindP u (cutF l (n + m))
  | [], u, n, m, _, _, _ => ⟨rfl, rfl⟩
  | p :: l, u, n, m, hp, hn, hm => by
    obtain ⟨h1, h2⟩ := hp.tail
    rcases cut_cases h1 h2 hn with ⟨rfl, eF, eR⟩ | ⟨n0, n1, eF, eR⟩ | ⟨n0, eF, eR⟩
    · rw [eF, eR, Int.zero_add]; exact ⟨rfl, rfl⟩
    · rw [eF, eR]
      rcases cut_cases (p := ⟨p.plot, p.loads - n⟩) (l := l) (n := m) (by dsimp only; omega) h2 hm with ⟨rfl, fF, fR⟩ | ⟨m0, m1, fF, fR⟩ | ⟨m0, fF, fR⟩
      · rw [fF, fR, Int.add_zero, eF, eR]; exact ⟨rfl, rfl⟩
      · dsimp only at m1 fF fR
        rcases cut_cases (n := n + m) h1 h2 (by omega) with ⟨g0, _⟩ | ⟨_, _, gF, gR⟩ | ⟨g0, _⟩
        · omega
        · rw [fF, fR, gF, gR]
          refine ⟨by rw [Int.sub_sub], ?_⟩
          show addPart (addPart u _) _ = addPart u _
          exact add_add _ _ _ _
        · omega
      · dsimp only at m0 fF fR
        rcases cut_cases (n := n + m) h1 h2 (by omega) with ⟨g0, _⟩ | ⟨_, g0, _⟩ | ⟨g0, gF, gR⟩
        · omega
        · omega
        · have e : m - (p.loads - n) = n + m - p.loads := by omega
          rw [fF, fR, gF, gR, e]
          refine ⟨rfl, ?_⟩
          show behindP (addPart (addPart u _) _) _ = behindP (addPart u p) _
          rw [add_add]
          have : n + (p.loads - n) = p.loads := by omega
          rw [this]
    · have ih := cut_cut l (addPart u p) (n - p.loads) m h2 (by omega) hm
      have e : n - p.loads + m = n + m - p.loads := by omega
      rcases cut_cases (n := n + m) h1 h2 (by omega) with ⟨g0, _⟩ | ⟨_, g0, _⟩ | ⟨g0, gF, gR⟩
      · omega
      · omega
      · rw [eF, eR, gF, gR, behindP_cons, behindP_cons, ih.1, ih.2, e]
        exact ⟨rfl, rfl⟩
theorem idx_map (nm : ByteArray) {l m : List Heap} (h : l.map (·.name) = m.map (·.name)) : nameIdx nm l = nameIdx nm m := by
  have key : ∀ l : List Heap, nameIdx nm l = (if (l.map (·.name)).any (fun x => decide (x = nm)) then ((l.map (·.name)).findIdx (fun x => decide (x = nm)) : Int) else -1) := fun l => by
    unfold nameIdx
    rw [List.any_map, List.findIdx_map]
    rfl
  rw [key, key, h]
/-- A chore that uses bundles. -/
def useC (nm : ByteArray) (n : Int) : Chore := ⟨7, 0, n, nm, noName, 0, 0, ⟨0, 0⟩⟩
theorem use_named (nm : ByteArray) (n : Int) : sameChore (namedP (useC nm n)) (useC nm n) = true := by simp [sameChore, namedP, useC]
theorem doP_use {s : Store} (nm : ByteArray) (n : Int) (h : checkS pl dry s = 0) : doP pl dry s (useC nm n) = if nameIdx nm s.heaps < 0 then (7, noStore) else
    if (useP s (nameIdx nm s.heaps).toNat (useC nm n)).1 ≠ 0 then ((useP s (nameIdx nm s.heaps).toNat (useC nm n)).1, noStore) else (0, (useP s (nameIdx nm s.heaps).toNat (useC nm n)).2) := by
  have hw : workP pl dry s (useC nm n) = if nameIdx nm s.heaps < 0 then (7, s) else useP s (nameIdx nm s.heaps).toNat (useC nm n) := rfl
  unfold doP
  rw [h, if_neg (by decide), if_neg (by rw [show (useC nm n).kind = 7 from rfl]; decide), if_neg (by rw [use_named]; decide), hw]
  by_cases h1 : nameIdx nm s.heaps < 0
  · rw [if_pos h1, if_pos h1, if_pos (show (7 : Int) ≠ 0 by decide)]
  · rw [if_neg h1, if_neg h1]
theorem inB_true {n a b : Int} (h1 : a ≤ n) (h2 : n ≤ b) : inB n a b = true := by simp [inB, h1, h2]
theorem inB_false {n a b : Int} (h : ¬ (a ≤ n ∧ n ≤ b)) : inB n a b = false := by
  cases q : inB n a b with
  | false => rfl
  | true => simp only [inB, Bool.and_eq_true, decide_eq_true_eq] at q; exact absurd q h
theorem useP_ok {s : Store} {k : Nat} {nm : ByteArray} {n : Int} (h3 : (s.heaps.getD k default).stage = 3) (h : 1 ≤ n ∧ n ≤ sumL (s.heaps.getD k default).parts / (s.heaps.getD k default).per) :
    useP s k (useC nm n) = (0, keepP { s with used := behindP s.used (cutF (s.heaps.getD k default).parts (n * (s.heaps.getD k default).per)) } k (cutR (s.heaps.getD k default).parts (n * (s.heaps.getD k default).per))) := by
  unfold useP
  rw [if_neg (fun x => x h3), if_neg]
  · rfl
  · show ¬ inB n 1 _ = false
    rw [inB_true h.1 h.2]; decide
/-- Bundles used at once, or one number of them and then another. -/
theorem use_law {s : Store} {nm : ByteArray} {n m : Int} (h : checkS pl dry s = 0) (hn : 1 ≤ n) (hm : 1 ≤ m) (h0 : (doP pl dry s (useC nm (n + m))).1 = 0) :
    (doP pl dry s (useC nm n)).1 = 0 ∧ (doP pl dry (doP pl dry s (useC nm n)).2 (useC nm m)).1 = 0 ∧ (doP pl dry (doP pl dry s (useC nm n)).2 (useC nm m)).2 = (doP pl dry s (useC nm (n + m))).2 := by
  have ho := check_ok h
  have hz := h0
  rw [doP_use nm _ h] at h0
  by_cases h1 : nameIdx nm s.heaps < 0
  · rw [if_pos h1] at h0; exact absurd h0 (show ¬ (7 : Int) = 0 by decide)
  rw [if_neg h1] at h0
  obtain ⟨k, hk⟩ : ∃ k, k = (nameIdx nm s.heaps).toNat := ⟨_, rfl⟩
  have hkl : k < s.heaps.length := hk ▸ idx_lt h1
  rw [← hk] at h0
  obtain ⟨H, hH⟩ : ∃ H, H = s.heaps.getD k default := ⟨_, rfl⟩
  have hh := ho.heaps _ (getD_memH hkl)
  rw [← hH] at hh
  have h3 : H.stage = 3 := Decidable.byContradiction fun h3 => by
    unfold useP at h0
    rw [← hH, if_pos h3, if_pos (show (8 : Int) ≠ 0 by decide)] at h0
    exact absurd h0 (show ¬ (8 : Int) = 0 by decide)
  have hb : n + m ≤ sumL H.parts / H.per := Decidable.byContradiction fun hb => by
    have e : useP s k (useC nm (n + m)) = (1, s) := by
      unfold useP
      rw [← hH, if_neg (fun x => x h3), if_pos]
      show inB (n + m) 1 _ = false
      exact inB_false (by omega)
    rw [e, if_pos (show (1 : Int) ≠ 0 by decide)] at h0
    exact absurd h0 (show ¬ (1 : Int) = 0 by decide)
  obtain ⟨⟨p1, p2⟩, pm⟩ := hh.bound h3
  have e0 := useP_ok (nm := nm) (s := s) (k := k) (n := n + m) (by rw [← hH]; exact h3) (by rw [← hH]; omega)
  have e1 := useP_ok (nm := nm) (s := s) (k := k) (n := n) (by rw [← hH]; exact h3) (by rw [← hH]; omega)
  rw [← hH] at e0 e1
  have d1 : doP pl dry s (useC nm n) = (0, (useP s k (useC nm n)).2) := by rw [doP_use nm _ h, if_neg h1, ← hk, e1]; rfl
  have d1z : (doP pl dry s (useC nm n)).1 = 0 := by rw [d1]
  obtain ⟨_, hc2, _⟩ := do_ok d1z
  refine ⟨d1z, ?_⟩
  have hn0 : 0 ≤ n * H.per := Int.mul_nonneg (by omega) (by omega)
  have hm0 : 0 ≤ m * H.per := Int.mul_nonneg (by omega) (by omega)
  have hle : (n + m) * H.per ≤ sumL H.parts := by
    have h1 : (n + m) * H.per ≤ sumL H.parts / H.per * H.per := Int.mul_le_mul_of_nonneg_right hb (by omega)
    have h2 := Int.ediv_mul_le (sumL H.parts) (b := H.per) (by omega)
    omega
  have hnm : (n + m) * H.per = n * H.per + m * H.per := Int.add_mul _ _ _
  have hm1 : 0 < m * H.per := Int.mul_pos (by omega) (by omega)
  have c := cut_law _ (n * H.per) hh.parts.2.1 hn0
  have hs := c.sum
  have hsF := c.sumF
  have hne : cutR H.parts (n * H.per) ≠ [] := sumL_ne (by omega)
  obtain ⟨cc1, cc2⟩ := cut_cut H.parts s.used (n * H.per) (m * H.per) hh.parts.2.1 hn0 hm0
  rw [← hnm] at cc1 cc2
  obtain ⟨t, ht⟩ : ∃ t, t = (doP pl dry s (useC nm n)).2 := ⟨_, rfl⟩
  rw [← ht] at hc2 ⊢
  have et : t = { s with used := behindP s.used (cutF H.parts (n * H.per)), heaps := s.heaps.set k (setPartsH H (cutR H.parts (n * H.per))) } := by
    rw [ht, d1, e1]
    dsimp only
    unfold keepP
    rw [if_neg hne, ← hH]
  have en : nameIdx nm t.heaps = nameIdx nm s.heaps := idx_map nm (by
    rw [et]
    dsimp only
    rw [List.map_set]
    apply List.ext_getElem?
    intro i
    rw [List.getElem?_set]
    split
    case isTrue hi =>
      subst hi
      rw [if_pos (by simpa using hkl), List.getElem?_map, List.getElem?_eq_getElem hkl]
      have : H = s.heaps[k] := by rw [hH, getD_lt _ hkl]
      rw [this]; rfl
    · rfl)
  have eH : t.heaps.getD k default = setPartsH H (cutR H.parts (n * H.per)) := by
    rw [et]; dsimp only; rw [getD_set _ _ _ _ _ hkl, if_pos rfl]
  have eq1 : (t.heaps.getD k default).parts = cutR H.parts (n * H.per) := by rw [eH]; rfl
  have eq2 : (t.heaps.getD k default).per = H.per := by rw [eH]; rfl
  have e2 := useP_ok (nm := nm) (s := t) (k := k) (n := m) (by rw [eH]; exact h3) (by
    rw [eq1, eq2]
    refine ⟨hm, (Int.le_ediv_iff_mul_le (by omega)).2 ?_⟩
    omega)
  rw [eq1, eq2] at e2
  have d2 : doP pl dry t (useC nm m) = (0, (useP t k (useC nm m)).2) := by rw [doP_use nm _ hc2, en, if_neg h1, ← hk, e2]; rfl
  have d0 : doP pl dry s (useC nm (n + m)) = (0, (useP s k (useC nm (n + m))).2) := by rw [doP_use nm _ h, if_neg h1, ← hk, e0]; rfl
  rw [d2, e2, d0, e0]
  refine ⟨rfl, ?_⟩
  dsimp only
  rw [cc1]
  unfold keepP
  by_cases hr : cutR H.parts ((n + m) * H.per) = []
  · rw [if_pos hr, if_pos hr, et]
    dsimp only
    rw [cc2]
    congr 1
    exact List.eraseIdx_set_eq
  · rw [if_neg hr, if_neg hr, eH, ← hH, et]
    dsimp only
    rw [cc2, List.set_set]
    rfl
end
end Go.Proofs.Ytpgkhlpepckfgaa
end
section
namespace Go.Proofs.Ytpgkhlpepckfgaa
open Go.RowKit Go.Lib
section
variable {pl : List Plot} {dry : Int}
theorem new_same {t : Store} (h : SameS (newS pl dry) t) : SameC t (newS pl dry) := by
  have e : (newS pl dry).heaps = [] := by unfold newS; split <;> rfl
  have e2 : t.heaps = [] := List.eq_nil_of_length_eq_zero (by rw [h.hlen, e]; rfl)
  exact ⟨h.year, h.last, h.given, by rw [e, e2], h.used, h.waste⟩
theorem new_ok (h : checkI pl dry = 0) : OkS pl (newS pl dry) := by
  unfold newS
  rw [if_pos h]
  refine ⟨(show (0 : Int) ≤ 0 ∧ (0 : Int) ≤ 100 by decide), by simp, by simp, by simp, ⟨by simp, by simp [Pos], trivial⟩, ⟨by simp, by simp [Pos], trivial⟩, by simp, by simp, ?_, fun i hi => ?_, fun i hi => ?_⟩
  · simp [totalS, sumL, heapsL]
  · simp [List.getD_eq_getElem?_getD, hi]
  · simp [List.getD_eq_getElem?_getD, hi, leftL, ofL]
theorem new_check (h : checkI pl dry = 0) : checkS pl dry (newS pl dry) = 0 := (new_ok h).check h
theorem idx_at {l : List Heap} (hn : l.Pairwise fun g h => g.name ≠ h.name) {k : Nat} (hk : k < l.length) : nameIdx (l.getD k default).name l = k := by
  rw [getD_lt _ hk]
  rw [List.pairwise_iff_getElem] at hn
  exact nameIdx_stop hk (fun j hj hjk => hn j k hj hk hjk) rfl
/-- A chore that dries. -/
def dryC (nm : ByteArray) (days lo hi : Int) : Chore := ⟨3, 0, 0, nm, noName, days, 0, ⟨lo, hi⟩⟩
theorem dry_named (nm : ByteArray) (days lo hi : Int) : sameChore (namedP (dryC nm days lo hi)) (dryC nm days lo hi) = true := by simp [sameChore, namedP, dryC]
theorem dry_law {s : Store} {k : Nat} {nm : ByteArray} {days lo hi : Int} (h : checkS pl dry s = 0) (hk : k < s.heaps.length) (hnm : nm = (s.heaps.getD k default).name) (hd : 0 ≤ days ∧ days ≤ 365) (hr : 0 ≤ lo ∧ lo ≤ hi ∧ hi ≤ 100) :
    doP pl dry s (dryC nm days lo hi) = if (s.heaps.getD k default).stage = 3 then (8, noStore) else
      (0, { s with heaps := s.heaps.set k (wetH (s.heaps.getD k default) ⟨clampP ((s.heaps.getD k default).wet.lo - 20 * days + 5 * lo), clampP ((s.heaps.getD k default).wet.hi - 10 * days + 15 * hi)⟩) }) := by
  have hi' : nameIdx nm s.heaps = (k : Int) := by rw [hnm]; exact idx_at (check_ok h).names hk
  have hw : workP pl dry s (dryC nm days lo hi) = if nameIdx nm s.heaps < 0 then (7, s) else dryP s (nameIdx nm s.heaps).toNat (dryC nm days lo hi) := rfl
  unfold doP
  rw [h, if_neg (by decide), if_neg (by rw [show (dryC nm days lo hi).kind = 3 from rfl]; decide), if_neg (by rw [dry_named]; decide), hw, hi', if_neg (show ¬ ((k : Nat) : Int) < 0 by omega), Int.toNat_natCast]
  unfold dryP
  by_cases h3 : (s.heaps.getD k default).stage = 3
  · rw [if_pos h3, if_pos h3, if_pos (show (8 : Int) ≠ 0 by decide)]
  · have hb : ¬ ¬ (inB (dryC nm days lo hi).days 0 365 = true ∧ spanB (dryC nm days lo hi).rain.lo (dryC nm days lo hi).rain.hi 0 100 = true) := by
      show ¬ ¬ (inB days 0 365 = true ∧ spanB lo hi 0 100 = true)
      simp [inB, spanB, hd, hr]
    rw [if_neg h3, if_neg h3, if_neg hb, if_neg (show ¬ (0 : Int) ≠ 0 by decide)]
    rfl
end
end Go.Proofs.Ytpgkhlpepckfgaa
end
section
namespace Go.Proofs.Ytpgkhlpepckfgaa
open Go.RowKit Go.Lib

/-- What Long answers. -/
def LongOut (l : List Chore) (w : World) (e : Ending) (w' : World) : Prop := (∃ b : Bool, e = .returned (.bool b) ∧ (b = false → l.length ≤ 300)) ∧ Below w.heap.size w w'
set_option maxHeartbeats 1000000 in
set_option maxRecDepth 100000 in
theorem long_any (B : Option Addr) (cb : Nat) (l : List Chore) (w : World) (h : RdChores w B l) :
    Calls Try.prog 39 #[.slice B l.length cb] w (LongOut l w) := by
  have hl := h.1.1
  go_enter Try.func39, Try.ntmps39
  go_wp2
  go_loopw [3, 4] (fun s i wr => ∃ (x : Int) (k : Nat), s = .int .i64 x ∧ i = .int .i64 k ∧ k ≤ l.length ∧ Hid (Below w.heap.size w wr)) (fun _ i _ => l.length - (intOf i).toNat)
  case atStart => exact ⟨0, 0, rfl, rfl, by omega, Below.refl _ w⟩
  case round =>
    obtain ⟨x, k, rfl, rfl, hk, hB⟩ := hrel
    by_cases h30 : k ≤ 300
    · by_cases hlt : k < l.length
      · obtain ⟨ad, hA, p0, p1, p2, p3, p4, p5, p6, p7, p8⟩ := (h.1.below hB.out).at9 hlt rfl
        subst hA
        have nb := (h.2 _ (List.getElem_mem hlt)).1
        have ob := (h.2 _ (List.getElem_mem hlt)).2.1
        go_wp2
        go_big_quiet (fail)
        go_wp2
        exact ⟨⟨_, k + 1, rfl, by go_num, by omega, hB.out.trans (below_drewN_ _ _)⟩, by simp only [intOf]; omega⟩
      · have hke : l.length ≤ 300 := by omega
        by_cases h1 : 40 < l.length
        · by_cases h2 : l.length ≤ 200
          · go_wp2
            exact bodyPost_ret (v := .bool true) (by simp [results, Try.results39, go_sem]) rfl ⟨⟨_, rfl, fun _ => hke⟩, hB.out⟩
          · go_wp2
            exact bodyPost_ret (v := .bool (decide ((l.length : Int) ≤ 200) || decide ((300 : Int) < l.length) || decide (2000 < x))) (by simp [results, Try.results39, go_sem]) rfl ⟨⟨_, rfl, fun _ => hke⟩, hB.out⟩
        · go_wp2
          exact bodyPost_ret (v := .bool (decide ((300 : Int) < l.length) || decide (2000 < x))) (by simp [results, Try.results39, go_sem]) rfl ⟨⟨_, rfl, fun _ => hke⟩, hB.out⟩
    · have h3 : 300 < l.length := by omega
      have h1 : 40 < l.length := by omega
      have h2 : ¬ l.length ≤ 200 := by omega
      by_cases hlt : k < l.length
      all_goals
        go_wp2
        exact bodyPost_ret (v := .bool true) (by simp [results, Try.results39, go_sem]) rfl ⟨⟨_, rfl, fun e => by cases e⟩, hB.out⟩
end Go.Proofs.Ytpgkhlpepckfgaa
end
section
namespace Go.Proofs.Ytpgkhlpepckfgaa
open Go.RowKit Go.Lib Go.ChangeShapes Go.WideShapes
theorem u8_wf {a : Int} (h : (Lit.int .u8 a).wf = true) : 0 ≤ a ∧ a ≤ 255 := by
  simp only [Lit.wf, Bool.and_eq_true, decide_eq_true_eq] at h
  exact ⟨h.1, h.2⟩
section
variable {H : Type} {enc : TypeId × Value → H} {w : World} {base : Nat} {spare : Nat → Bool} {held : Bool}
variable {r : Reach} {b0 : Nat} {v : Value} {d : DataW H} {p : List MemPlace}
set_option maxRecDepth 100000 in
/-- A row of chores, opened. -/
theorem open_row68 (hv : Value.okWide Try.prog w r b0 68 v) (h : DataW.Trod enc Try.prog w base spare held 68 v d p) (hs : Small 68 d) : ∃ A c, ∃ l : List Chore, v = .slice A l.length c ∧ RdChores w A l := by
  obtain ⟨a, len, cap, rfl⟩ := okWide_slice Try.underlying68 hv
  obtain ⟨fuel, hf⟩ := h
  have hf' : DataW.trod enc Try.prog w base spare held fuel 68 [.slice a len cap] = some (d, p) := by simpa [Value.cells] using hf
  obtain ⟨A, c, l, e, hr, hq⟩ := open_flat (Q := WellC) Try.underlying68 cells64 (enc' := encChore) (fun _ => rfl) (of_decide_eq_true (by kernel_rfl)) (fun n cs x hx hsx => trod_chore hx hsx) hf' hs
  exact ⟨A, c, l, e, hr, hq⟩
theorem row68_cap {A : Option Addr} {n c : Nat} (h : DataW.Trod enc Try.prog w base spare held 68 (.slice A n c) d p) : n ≤ c := by
  obtain ⟨fuel, hf⟩ := h
  have hf' : DataW.trod enc Try.prog w base spare held fuel 68 [.slice A n c] = some (d, p) := by simpa [Value.cells] using hf
  rcases Deep.open_slice Try.underlying68 hf' with ⟨e1, _⟩ | ⟨a, len, cap, m, n', D, Pl, e1, _, hlc, _⟩
  · simp only [List.cons.injEq, and_true, Value.slice.injEq] at e1
    omega
  · simp only [List.cons.injEq, and_true, Value.slice.injEq] at e1
    omega
end
end Go.Proofs.Ytpgkhlpepckfgaa
end
