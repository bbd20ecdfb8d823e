/-
  The words that walks inside a fence use. No program is named here. The edges of an outline, with their numbers: what the iterator yields, walked. (Printed by genR5.py.) The edges of an outline as an iterator: what its callers ask of it. Whether a point lies within an outline: walked. slices.IndexFunc and slices.ContainsFunc at points, with whatever function: walked. Whether an edge of an outline parts it from another one: walked. Whether an edge of an outline parts it from another one: walked, the loop. Whether an outline is convex: walked. An activation's deferred calls that are marks of loops over iterators alone, as many as there are: what a function does at its return. No program is named here. A range over a function whose iterator may do whatever beyond the loop's two blocks (a loop over another iterator, too); the body never leaves. No program is named here.
-/
import Derived.Test.YthojfhdenfhjfaaDoorRa03
import Derived.Test.YthojfhdenfhjfaaDoorRa05
import Derived.Test.YthojfhdenfhjfaaDoorRa06
import Derived.LoopIn
import Derived.LoopNIn
import Derived.RangeFuncBound
import Derived.RangeFuncCalls
import Derived.RangeFuncLeaves
import Derived.RangeFuncNested
import Derived.RegionIn
import Derived.Shelf.Abstract
import Derived.Shelf.RegionOpen
import Derived.Stop.RegionWithIn
import Derived.TacticsInMore
set_option linter.all false
set_option linter.unusedVariables false
set_option linter.unusedSimpArgs false
section
namespace Go.Proofs.YthojfhdenfhjfaaDoor
end Go.Proofs.YthojfhdenfhjfaaDoor
end
section
namespace Go.Proofs.YthojfhdenfhjfaaDoor
open Go.RowKit Go.Lib Go.Shelf

attribute [local go_sem] Oper.semAt_some
/-- What the iterator yields: numbers and edges. -/
def sidesI (l : List Pnt) : List (Nat × Sd) := (List.range l.length).map fun k => (k, sideAt l k)
abbrev SideOf (l : List Pnt) : Type := { x : Nat × Sd // x ∈ sidesI l }
def sidesS (l : List Pnt) : List (SideOf l) := (sidesI l).attach
def encSide {l : List Pnt} (x : SideOf l) : Array Value := #[.int .i64 (x.1.1 : Int), .agg (sdCells x.1.2)]
theorem sidesI_len (l : List Pnt) : (sidesI l).length = l.length := by simp [sidesI]
theorem sidesS_len (l : List Pnt) : (sidesS l).length = l.length := by unfold sidesS; rw [List.length_attach]; exact sidesI_len l
theorem sidesI_get (l : List Pnt) {k : Nat} (h : k < l.length) : (sidesI l)[k]'(by rw [sidesI_len]; exact h) = (k, sideAt l k) := by simp [sidesI]
theorem sidesS_take (l : List Pnt) {k : Nat} (h : k < l.length) : ∃ hm, (sidesS l).take (k + 1) = (sidesS l).take k ++ [⟨(k, sideAt l k), hm⟩] := by
  have hk : k < (sidesI l).length := by rw [sidesI_len]; exact h
  have hm : (k, sideAt l k) ∈ sidesI l := by rw [← sidesI_get l h]; exact List.getElem_mem _
  refine ⟨hm, ?_⟩
  rw [List.take_succ_eq_append_getElem (by rw [sidesS_len]; exact h)]
  congr 2
  apply Subtype.ext
  simp only [sidesS, List.getElem_attach]
  exact sidesI_get l h
/-- sides(l): the closure. -/
theorem sides_any (A : Option Addr) (k c : Nat) (w : World) : Calls Tryd.prog 46 #[.slice A k c] w fun e w' => e = .returned (.func (.func 91) #[] #[.pointer (some ⟨w.heap.size, 0, none⟩)]) ∧ w' = w.alloc (.cells #[.slice A k c] 43) := by
  go_enter Tryd.func46, Tryd.ntmps46
  go_wp2
  go_ret
  exact ⟨rfl, rfl⟩
theorem RdPnts.at2 {w : World} {A : Option Addr} {l : List Pnt} (h : RdPnts w A l) {i : Nat} (hi : i < l.length) : ∃ ad, A = some ad ∧ w.cell? (ad.add (i * 2)) = some (.int .i64 (l.getD i default).x) ∧ w.cell? ⟨(ad.add (i * 2)).block, (ad.add (i * 2)).off + 1, none⟩ = some (.int .i64 (l.getD i default).y) := by
  have e : l.getD i default = l[i] := by simp [List.getD_eq_getElem?_getD, hi]
  rw [e]
  exact FlatRow.at2 h hi rfl
/-- What a round keeps: what lay below n₀, and the iterator's own variable. -/
def KpS (n₀ Bs : Nat) (W W' : World) : Prop := Below n₀ W W' ∧ W'.heap[Bs]? = W.heap[Bs]?
/-- The outline's variable and the point's. -/
structure ItX (w0 : World) (Bs : Nat) (A : Option Addr) (l : List Pnt) (c : Nat) (bp : Nat) (p : Pnt) (W : World) : Prop where
  rd : RdPnts W A l
  c0 : W.heap[Bs]? = some (.cells #[.slice A l.length c] 43 (0, 0))
  c1 : W.heap[bp]? = some (.cells #[.int .i64 p.x, .int .i64 p.y] 39 (0, 0))
set_option maxHeartbeats 2000000 in
set_option maxRecDepth 100000 in
theorem sides1_in (F : Fence) (n : Nat) (h91 : F.fn 91) (hro : F.round = none) (hn : 1 ≤ n) (y Bs : Nat) (A : Option Addr) (c : Nat) (l : List Pnt) (w0 : World) (hA : RdPnts w0 A l) (n₀ : Nat) (hn₀ : w0.heap.size ≤ n₀) (hl : l.length ≤ 100000)
    (J Jx : List (SideOf l) → World → Prop) (hJ : ∀ s X o, J s X → J s (X.alloc o)) (hJd : ∀ s X, J s X → J s X.drew)
    (hY : ∀ pre x W, J pre W → pre.length < l.length → YieldAt F (n - 1) Tryd.prog y (encSide x) W fun e W' =>
      (e = .returned (.bool true) ∧ J (pre ++ [x]) W' ∧ KpS n₀ Bs W W') ∨ (e = .returned (.bool false) ∧ Jx (pre ++ [x]) W'))
    (W : World) (hW : Below n₀ w0 W) (hnW : n₀ ≤ W.heap.size) (hc0 : W.heap[Bs]? = some (.cells #[.slice A l.length c] 43 (0, 0))) (h0 : J [] W) :
    CallsIn F n Tryd.prog 91 (#[.func (.yield y) #[] #[]] ++ #[.pointer (some ⟨Bs, 0, none⟩)]) W fun e W' => (∃ v, e = .returned v) ∧
      ((∃ ys, ys = sidesS l ∧ J ys W') ∨ (∃ pre, (∃ k, k ≤ l.length ∧ pre = (sidesS l).take k) ∧ Jx pre W')) := by
  have rd : ∀ W', Below n₀ w0 W' → RdPnts W' A l := fun W' hb => hA.below (hb.mono hn₀)
  have e1 := cells1 hc0
  refine callsIn_of_wp Tryd.func91 rfl h91 ?_ hro
  simp only [Tryd.ntmps91, List.size_toArray, List.length_cons, List.length_nil, Nat.reduceAdd, Nat.reduceSub, Array.replicate_succ, Array.replicate_zero, List.push_toArray, List.append_toArray, List.nil_append, List.cons_append]
  gi_wp2
  gi_loopw [7] (fun i wr => ∃ k : Nat, i = .int .i64 k ∧ k ≤ l.length ∧ Hid (J ((sidesS l).take k) wr) ∧ Hid (Below n₀ w0 wr) ∧ n₀ ≤ wr.heap.size ∧ Hid (wr.heap[Bs]? = some (.cells #[.slice A l.length c] 43 (0, 0)))) (fun i _ => l.length - (intOf i).toNat)
  case atStart => exact ⟨0, rfl, Nat.zero_le _, by rw [List.take_zero]; exact h0, hW, hnW, hc0⟩
  case round =>
    obtain ⟨k, rfl, hk, hJw, hbw, hnw, hcw⟩ := hrel
    by_cases hlt : k < l.length
    · obtain ⟨ad, hA', p0, p1⟩ := (rd _ hbw.out).at2 hlt
      subst hA'
      obtain ⟨j, hj⟩ : ∃ j, j = (k + 1) % l.length := ⟨_, rfl⟩
      have hjl : j < l.length := by rw [hj]; exact Nat.mod_lt _ (by omega)
      obtain ⟨p, hp⟩ : ∃ p, p = l.getD k default := ⟨_, rfl⟩
      obtain ⟨q, hq⟩ : ∃ q, q = l.getD j default := ⟨_, rfl⟩
      rw [← hp] at p0 p1
      have hsd : Hid (sideAt l k = ⟨p, q⟩) := by unfold Hid sideAt; rw [hp, hq, hj]
      have hcl : Hid (∀ W', ItX w0 Bs (some ad) l c wr.heap.size p W' → W'.cell? ⟨Bs, 0, none⟩ = some (.slice (some ad) l.length c) ∧ (W'.cell? ⟨wr.heap.size, 0, none⟩ = some (.int .i64 p.x) ∧ W'.cell? ⟨wr.heap.size, 1, none⟩ = some (.int .i64 p.y)) ∧ W'.cell? (ad.add (j * 2)) = some (.int .i64 q.x) ∧ W'.cell? ⟨(ad.add (j * 2)).block, (ad.add (j * 2)).off + 1, none⟩ = some (.int .i64 q.y)) := fun W' h => by
        obtain ⟨ad', e', r0, r1⟩ := h.rd.at2 hjl
        cases e'
        rw [← hq] at r0 r1
        exact ⟨cells1 h.c0, cells2 h.c1, r0, r1⟩
      have hmod : (((k : Int) + 1).tmod (l.length : Int)) = (j : Int) := by
        rw [hj, Int.tmod_eq_emod_of_nonneg (by omega), Int.natCast_emod]
        rfl
      have hne : ¬ l = [] := fun e => by rw [e] at hlt; exact absurd hlt (Nat.not_lt_zero _)
      have hwk : IntKind.i64.wrap ((k : Int) + 1) = (k : Int) + 1 := IntWalk.i64_in _ (by omega)
      replace hp := Lib.hid hp
      replace hq := Lib.hid hq
      replace hj := Lib.hid hj
      gi_wp2
      obtain ⟨wa, hwa⟩ : ∃ x, x = wr.alloc (.cells #[.int .i64 p.x, .int .i64 p.y] 39) := ⟨_, rfl⟩
      rw [← hwa]
      have hba : Below n₀ w0 wa := by rw [hwa]; exact hbw.out.alloc hnw _
      have hXa : ItX w0 Bs (some ad) l c wr.heap.size p wa.drew := ⟨(rd _ hba).below ((Below.refl _ _).drew), (show wa.heap[Bs]? = _ by rw [hwa]; exact heap_old _ _ _ _ hcw.out), by rw [hwa]; exact heap_new _ _ _ rfl⟩
      have hJa : J ((sidesS l).take k) wa.drew := by rw [hwa]; exact hJd _ _ (hJ _ _ _ hJw.out)
      have hkl : ((sidesS l).take k).length < l.length := by rw [List.length_take, sidesS_len]; omega
      obtain ⟨hm, htk⟩ := sidesS_take l hlt
      obtain ⟨fn, tmps, assign, body, hy, hR⟩ := hY _ ⟨(k, sideAt l k), hm⟩ wa.drew hJa hkl
      dsimp only [encSide] at hy
      rw [hsd.out] at hy
      replace htk := Lib.hid htk
      replace hwa := Lib.hid hwa
      replace hJa := Lib.hid hJa
      replace hXa := Lib.hid hXa
      refine wpIn_region_tree (ItX w0 Bs (some ad) l c wr.heap.size p) (.pure 0 (.pure 1 (.read 2 (.read 3 (.pure 4 (.pure 5 (.read 6 (.pure 7 (.pure 8 (.pure 9 (.read 10 (.pure 11 (.one 12 (.pure 13 .done)))))))))))))) [12] (by kernel_rfl) (by kernel_rfl) (by kernel_rfl) hXa.out ?_
      refine wpTreeIn_pure (v := ?_) rfl (by rfl) ?_ (fun _ => by rfl) (fun _ _ _ h => h) ?_
      rotate_left
      focus (intro w'; (try simp only [List.getElem_toArray, List.getElem_cons_zero, List.getElem_cons_succ]); go_simp; try with_reducible rfl)
      (try simp only [List.getElem_toArray, List.getElem_cons_zero, List.getElem_cons_succ, Act.put, List.setIfInBounds_toArray, List.set_cons_zero, List.set_cons_succ])
      refine wpTreeIn_pure (v := ?_) rfl (by rfl) ?_ (fun _ => by rfl) (fun _ _ _ h => h) ?_
      rotate_left
      focus (intro w'; (try simp only [List.getElem_toArray, List.getElem_cons_zero, List.getElem_cons_succ]); go_simp; try with_reducible rfl)
      (try simp only [List.getElem_toArray, List.getElem_cons_zero, List.getElem_cons_succ, Act.put, List.setIfInBounds_toArray, List.set_cons_zero, List.set_cons_succ])
      refine wpTreeIn_take (v := ?_) rfl (by rfl) ?_ (fun _ => by rfl) (fun _ _ _ h => h) ?_
      rotate_left
      focus (intro w' hSw; obtain ⟨s0, ⟨z0, z1⟩, r0, r1⟩ := hcl.out _ hSw; clear hSw; (try simp only [List.getElem_toArray, List.getElem_cons_zero, List.getElem_cons_succ]); go_simp; try with_reducible rfl)
      (try simp only [List.getElem_toArray, List.getElem_cons_zero, List.getElem_cons_succ, Act.put, List.setIfInBounds_toArray, List.set_cons_zero, List.set_cons_succ])
      refine wpTreeIn_take (v := ?_) rfl (by rfl) ?_ (fun _ => by rfl) (fun _ _ _ h => h) ?_
      rotate_left
      focus (intro w' hSw; obtain ⟨s0, ⟨z0, z1⟩, r0, r1⟩ := hcl.out _ hSw; clear hSw; (try simp only [List.getElem_toArray, List.getElem_cons_zero, List.getElem_cons_succ]); go_simp; try with_reducible rfl)
      (try simp only [List.getElem_toArray, List.getElem_cons_zero, List.getElem_cons_succ, Act.put, List.setIfInBounds_toArray, List.set_cons_zero, List.set_cons_succ])
      refine wpTreeIn_pure (v := ?_) rfl (by rfl) ?_ (fun _ => by rfl) (fun _ _ _ h => h) ?_
      rotate_left
      focus (intro w'; (try simp only [List.getElem_toArray, List.getElem_cons_zero, List.getElem_cons_succ]); go_simp; try with_reducible rfl)
      (try simp only [List.getElem_toArray, List.getElem_cons_zero, List.getElem_cons_succ, Act.put, List.setIfInBounds_toArray, List.set_cons_zero, List.set_cons_succ])
      refine wpTreeIn_pure (v := ?_) rfl (by rfl) ?_ (fun _ => by rfl) (fun _ _ _ h => h) ?_
      rotate_left
      focus (intro w'; (try simp only [List.getElem_toArray, List.getElem_cons_zero, List.getElem_cons_succ]); go_simp; try with_reducible rfl)
      (try simp only [List.getElem_toArray, List.getElem_cons_zero, List.getElem_cons_succ, Act.put, List.setIfInBounds_toArray, List.set_cons_zero, List.set_cons_succ])
      refine wpTreeIn_take (v := ?_) rfl (by rfl) ?_ (fun _ => by rfl) (fun _ _ _ h => h) ?_
      rotate_left
      focus (intro w' hSw; obtain ⟨s0, ⟨z0, z1⟩, r0, r1⟩ := hcl.out _ hSw; clear hSw; (try simp only [List.getElem_toArray, List.getElem_cons_zero, List.getElem_cons_succ]); go_simp; try with_reducible rfl)
      (try simp only [List.getElem_toArray, List.getElem_cons_zero, List.getElem_cons_succ, Act.put, List.setIfInBounds_toArray, List.set_cons_zero, List.set_cons_succ])
      refine wpTreeIn_pure (v := ?_) rfl (by rfl) ?_ (fun _ => by rfl) (fun _ _ _ h => h) ?_
      rotate_left
      focus (intro w'; (try simp only [List.getElem_toArray, List.getElem_cons_zero, List.getElem_cons_succ]); go_simp; try with_reducible rfl)
      (try simp only [List.getElem_toArray, List.getElem_cons_zero, List.getElem_cons_succ, Act.put, List.setIfInBounds_toArray, List.set_cons_zero, List.set_cons_succ])
      refine wpTreeIn_pure (v := ?_) rfl (by rfl) ?_ (fun _ => by rfl) (fun _ _ _ h => h) ?_
      rotate_left
      focus (intro w'; (try simp only [List.getElem_toArray, List.getElem_cons_zero, List.getElem_cons_succ]); go_simp; try with_reducible rfl)
      (try simp only [List.getElem_toArray, List.getElem_cons_zero, List.getElem_cons_succ, Act.put, List.setIfInBounds_toArray, List.set_cons_zero, List.set_cons_succ])
      refine wpTreeIn_pure (v := ?_) rfl (by rfl) ?_ (fun _ => by rfl) (fun _ _ _ h => h) ?_
      rotate_left
      focus (intro w'; (try simp only [List.getElem_toArray, List.getElem_cons_zero, List.getElem_cons_succ]); go_simp; try with_reducible rfl)
      (try simp only [List.getElem_toArray, List.getElem_cons_zero, List.getElem_cons_succ, Act.put, List.setIfInBounds_toArray, List.set_cons_zero, List.set_cons_succ])
      refine wpTreeIn_take (v := ?_) rfl (by rfl) ?_ (fun _ => by rfl) (fun _ _ _ h => h) ?_
      rotate_left
      focus (intro w' hSw; obtain ⟨s0, ⟨z0, z1⟩, r0, r1⟩ := hcl.out _ hSw; clear hSw; (try simp only [List.getElem_toArray, List.getElem_cons_zero, List.getElem_cons_succ]); go_simp; try with_reducible rfl)
      (try simp only [List.getElem_toArray, List.getElem_cons_zero, List.getElem_cons_succ, Act.put, List.setIfInBounds_toArray, List.set_cons_zero, List.set_cons_succ])
      refine wpTreeIn_pure (v := ?_) rfl (by rfl) ?_ (fun _ => by rfl) (fun _ _ _ h => h) ?_
      rotate_left
      focus (intro w'; (try simp only [List.getElem_toArray, List.getElem_cons_zero, List.getElem_cons_succ]); go_simp; try with_reducible rfl)
      (try simp only [List.getElem_toArray, List.getElem_cons_zero, List.getElem_cons_succ, Act.put, List.setIfInBounds_toArray, List.set_cons_zero, List.set_cons_succ])
      refine wpTreeIn_do rfl (by rfl) ?_
      (try simp only [List.getElem_toArray, List.getElem_cons_zero, List.getElem_cons_succ])
      go_simp
      refine hR.mono ?_
      rintro e W3 (⟨rfl, hJ3, hk3⟩ | ⟨rfl, hJx3⟩)
      all_goals dsimp only
      · have hJn : Hid (J ((sidesS l).take (k + 1)) W3) := by unfold Hid; rw [htk.out]; exact hJ3
        have hbn : Hid (Below n₀ w0 W3) := hba.drew.trans hk3.1
        have hnn : n₀ ≤ W3.heap.size := Nat.le_trans (by have := hk3.1.size; rw [World.size_drew] at this; rw [hwa.out, World.size_alloc] at this; omega) (Nat.le_refl _)
        have hcn : Hid (W3.heap[Bs]? = some (.cells #[.slice (some ad) l.length c] 43 (0, 0))) := hk3.2.trans hXa.out.c0
        clear hR hy hcl hJa hXa hJ3 p0 p1
        refine wpTreeIn_pure (v := ?_) rfl (by rfl) ?_ (fun _ => by rfl) (fun _ _ _ h => h) ?_
        rotate_left
        focus (intro w'; (try simp only [List.getElem_toArray, List.getElem_cons_zero, List.getElem_cons_succ]); go_simp; try with_reducible rfl)
        (try simp only [List.getElem_toArray, List.getElem_cons_zero, List.getElem_cons_succ, Act.put, List.setIfInBounds_toArray, List.set_cons_zero, List.set_cons_succ])
        unfold wpTreeIn
        gi_wp2
        exact ⟨⟨k + 1, by go_num, by omega, hJn, hbn, hnn, hcn⟩, by simp only [intOf]; omega⟩
      · have hJn : Hid (Jx ((sidesS l).take (k + 1)) W3) := by unfold Hid; rw [htk.out]; exact hJx3
        clear hR hy hcl hJa hXa p0 p1
        refine wpTreeIn_pure (v := ?_) rfl (by rfl) ?_ (fun _ => by rfl) (fun _ _ _ h => h) ?_
        rotate_left
        focus (intro w'; (try simp only [List.getElem_toArray, List.getElem_cons_zero, List.getElem_cons_succ]); go_simp; try with_reducible rfl)
        (try simp only [List.getElem_toArray, List.getElem_cons_zero, List.getElem_cons_succ, Act.put, List.setIfInBounds_toArray, List.set_cons_zero, List.set_cons_succ])
        unfold wpTreeIn
        gi_wp2
        refine bodyPost_ret (results_none rfl _ _ _) rfl ?_
        exact ⟨⟨_, rfl⟩, .inr ⟨_, ⟨k + 1, by omega, rfl⟩, hJn.out⟩⟩
    · obtain rfl : k = l.length := by omega
      gi_wp2
      go_end0
      exact ⟨⟨_, rfl⟩, .inl ⟨_, rfl, by have := hJw.out; rw [List.take_of_length_le (by rw [sidesS_len]; exact Nat.le_refl _)] at this; exact this⟩⟩
end Go.Proofs.YthojfhdenfhjfaaDoor
end
section
namespace Go.Proofs.YthojfhdenfhjfaaDoor
open Go.RowKit Go.Lib Go.Shelf

theorem KpS_t {n₀ Bs : Nat} {A B C : World} (h : KpS n₀ Bs A B) (k : KpS n₀ Bs B C) : KpS n₀ Bs A C := ⟨h.1.trans k.1, k.2.trans h.2⟩
theorem KpS_b {n₀ Bs : Nat} {w : World} (hn : n₀ ≤ w.heap.size) (hb : Bs < w.heap.size) (W : World) (l : Nat) (o o' : Obj) (hl : w.heap.size ≤ l) (h : W.heap[l]? = some o) (h1 : o.isCells = false) (h2 : o.isWalk = false) : KpS n₀ Bs W (W.putObj l o') :=
  ⟨belowK_b hn W l o o' hl h h1 h2, by
    have hb' := (grownBy_putObj' W l o').block Bs (by have := (Array.getElem?_eq_some_iff.1 h).1; omega) (fun e => by cases e; omega)
    exact hb'⟩
theorem sides_stops (F : Fence) (n : Nat) (h91 : F.fn 91) (hro : F.round = none) (hn : 1 ≤ n) (Bs n₀ : Nat) (A : Option Addr) (c : Nat) (l : List Pnt) (w0 w : World) (hA : RdPnts w0 A l) (h0 : w0.heap.size ≤ n₀) (hw : Below n₀ w0 w) (hn₀ : n₀ ≤ w.heap.size) (hl : l.length ≤ 100000)
    (hc : w.heap[Bs]? = some (.cells #[.slice A l.length c] 43 (0, 0))) :
    SeqStopsK F n Tryd.prog 91 #[.pointer (some ⟨Bs, 0, none⟩)] (encSide (l := l)) (KpS n₀ Bs) (fun ys => ys = sidesS l) (fun pre => ∃ k, k ≤ l.length ∧ pre = (sidesS l).take k) l.length w := fun y J Jx W hW hJ _ hY hJ0 =>
  sides1_in F n h91 hro hn y Bs A c l w0 hA n₀ h0 hl J Jx
    (fun s X o hs => hJ s X _ none hs (World.grownBy_alloc X o none) (fun r e => by cases e))
    (fun s X hs => hJ s X _ none hs ⟨rfl, rfl, rfl, Nat.le_refl _, fun _ _ _ => rfl⟩ (fun r e => by cases e))
    hY W (hw.trans (hW.mono hn₀)) (Nat.le_trans hn₀ hW.size) ((hW.block _ (lt_block hc)).trans hc) hJ0
end Go.Proofs.YthojfhdenfhjfaaDoor
end
section
namespace Go.Proofs.YthojfhdenfhjfaaDoor
open Go.RowKit Go.Lib Go.Shelf

attribute [local go_sem] Oper.semAt_some
theorem block_own {β : Type} (b : Nat) (cs : β → Array Value) (t : TypeId) : Own (fun (s : β) W => W.heap[b]? = some (.cells (cs s) t (0, 0))) := fun s X Y row hs hg hr =>
  (hg.block b (lt_block hs) (fun e => by obtain ⟨o, ho, hc⟩ := hr b e.symm; rw [hs] at ho; cases ho; cases hc)).trans hs
def minF (l : List Pnt) (p : Pnt) (pre : List (SideOf l)) : Int := pre.foldl (fun n x => min n (sgn (leftS x.1.2 p))) 1
theorem minF_snoc (l : List Pnt) (p : Pnt) (pre : List (SideOf l)) (x : SideOf l) : minF l p (pre ++ [x]) = min (minF l p pre) (sgn (leftS x.1.2 p)) := by simp [minF]
theorem minF_all (l : List Pnt) (p : Pnt) : minF l p (sidesS l) = liesI l p := by
  have e : sidesL l = (sidesI l).map (·.2) := by simp [sidesL, sidesI]
  unfold minF liesI sidesS
  rw [e, List.foldl_map]
  have h := List.foldl_map (f := fun x : SideOf l => x.1) (g := fun (n : Int) (y : Nat × Sd) => min n (sgn (leftS y.2 p))) (l := (sidesI l).attach) (init := 1)
  rw [List.attach_map_subtype_val] at h
  exact h.symm
theorem side_small {l : List Pnt} (hs : ∀ q ∈ l, SmP q 1000000) (x : SideOf l) : SmP x.1.2.a 1000000 ∧ SmP x.1.2.b 1000000 := by
  obtain ⟨x, hx⟩ := x
  obtain ⟨k, hk, rfl⟩ := List.mem_map.1 hx
  have hk' : k < l.length := List.mem_range.1 hk
  have key : ∀ j, j < l.length → SmP (l.getD j default) 1000000 := fun j hj => by
    have : l.getD j default = l[j] := by simp [List.getD_eq_getElem?_getD, hj]
    rw [this]; exact hs _ (List.getElem_mem hj)
  exact ⟨key k hk', key _ (Nat.mod_lt _ (by omega))⟩
set_option maxHeartbeats 2000000 in
set_option maxRecDepth 100000 in
theorem lies_any (A : Option Addr) (c : Nat) (l : List Pnt) (p : Pnt) (w : World) (hA : RdPnts w A l) (hl : l.length ≤ 100000) (hs : ∀ q ∈ l, SmP q 1000000) (hp : SmP p 1000000) :
    Calls Tryd.prog 60 #[.slice A l.length c, pntVal p] w fun e w' => e = .returned (.int .i64 (liesI l p)) ∧ Below w.heap.size w w' := by
  refine (callsIn_wide (n := 5)).1 ?_
  refine callsIn_of_wp_marks Tryd.func60 rfl trivial ?_ rfl
  simp only [Tryd.ntmps60, List.size_toArray, List.length_cons, List.length_nil, Nat.reduceAdd, Nat.reduceSub, Array.replicate_succ, Array.replicate_zero, List.push_toArray, List.append_toArray, List.nil_append, List.cons_append]
  gi_wp2_with (refine ⟨trivial, ?_⟩; gi_at_call 46; refine (callsIn_wide.2 (sides_any A l.length c _)).mono ?_; rintro e w' ⟨rfl, rfl⟩)
  obtain ⟨W0, hW0⟩ : ∃ W0, W0 = (((w.alloc (.cells #[.int .i64 p.x, .int .i64 p.y] 39)).alloc (.cells #[.int .i64 1] 113)).alloc (.cells #[.slice A l.length c] 43)) := ⟨_, rfl⟩
  rw [← hW0]
  have cP : W0.heap[w.heap.size]? = some (.cells #[.int .i64 p.x, .int .i64 p.y] 39 (0, 0)) := by rw [hW0]; exact heap_old _ _ _ _ (heap_old _ _ _ _ (heap_new _ _ _ rfl))
  have cO : Boxed W0 (w.heap.size + 1) 113 (.int .i64 1) := by rw [hW0]; exact heap_old _ _ _ _ (heap_new _ _ _ (by simp))
  have cS : W0.heap[w.heap.size + 1 + 1]? = some (.cells #[.slice A l.length c] 43 (0, 0)) := by rw [hW0]; exact heap_new _ _ _ (by simp)
  have hB0 : Below w.heap.size w W0 := by rw [hW0]; exact (((Below.refl _ w).alloc (Nat.le_refl _) _).alloc (by simp) _).alloc (by simp; omega) _
  have hsz : W0.heap.size = w.heap.size + 3 := by rw [hW0]; simp
  replace hW0 := Lib.hid hW0
  refine wpIn_rangeFunc_ownH rfl (by decide) (gf := 91) (lb := #[.pointer (some ⟨w.heap.size + 1 + 1, 0, none⟩)]) rfl trivial (enters_of Tryd.func91 (by kernel_rfl) rfl)
    (sides_stops Fence.wide 4 trivial rfl (by decide) (w.heap.size + 1 + 1) w.heap.size A c l w W0 hA (Nat.le_refl _) hB0 (by omega) hl cS) KpS_t (KpS_b (by omega) (by omega)) (Below.refl _ _) (fun _ => rfl)
    (fun pre W => ((W.heap[w.heap.size]? = some (.cells #[.int .i64 p.x, .int .i64 p.y] 39 (0, 0)) ∧ Boxed W (w.heap.size + 1) 113 (.int .i64 (minF l p pre))) ∧ W.heap[w.heap.size + 1 + 1]? = some (.cells #[.slice A l.length c] 43 (0, 0))) ∧ Below w.heap.size w W)
    (fun _ _ _ => False)
    (OwnFrom.and (OwnFrom.and (OwnFrom.and (Own.from (block_own _ _ _) _) (Own.from (boxed_own _ _ _) _)) (Own.from (block_own _ _ _) _)) (ownFrom_below (Nat.le_refl _) (by omega)))
    (fun _ _ _ _ _ hs _ _ => hs)
    ⟨⟨⟨cP, cO⟩, cS⟩, hB0⟩
    (fun x a' W => ∃ Bx, w.heap.size + 1 + 1 < Bx ∧ W.heap[Bx]? = some (.cells (sdCells x.1.2) 100 (0, 0)) ∧ a' = { tmps := #[.slice A l.length c, pntVal p, undef, .pointer (some ⟨w.heap.size, 0, none⟩), .int .i64 0, .pointer (some ⟨w.heap.size + 1, 0, none⟩), undef, .pointer (some ⟨Bx, 0, none⟩), .slice A l.length c, .func (.func 91) #[] #[.pointer (some ⟨w.heap.size + 1 + 1, 0, none⟩)], .int .i64 (x.1.1 : Int), .agg (sdCells x.1.2), undef, undef, undef, undef, undef, undef], defers := [] })
    (fun x a' _ X Y row hs hg hr => by obtain ⟨Bx, e1, e2, e3⟩ := hs; exact ⟨Bx, e1, block_own Bx (fun (_ : Unit) => sdCells x.1.2) 100 () X Y row e2 hg (fun r e => (hr r e).2), e3⟩)
    ?assign ?body ?done ?stop
  case assign =>
    rintro y pre x W K ⟨⟨⟨c1, c2⟩, c3⟩, hB⟩ hK
    unfold encSide
    gi_wp2
    exact hK _ _ ((KeepsOthers.alloc _ _).from _) ⟨(Below.refl _ W).alloc hB.size _, (heap_old _ _ _ _ c3).trans c3.symm⟩ ⟨⟨⟨heap_old _ _ _ _ c1, heap_old _ _ _ _ c2⟩, heap_old _ _ _ _ c3⟩, hB.alloc hB.size _⟩ ⟨W.heap.size, lt_block c3, heap_new _ _ _ rfl, rfl⟩
  case body =>
    rintro y pre x a' W hy ⟨r, hr⟩ ⟨⟨⟨c1, c2⟩, c3⟩, hB⟩ ⟨Bx, hBx, bX, rfl⟩ hlt
    obtain ⟨ha, hb⟩ := side_small hs x
    obtain ⟨⟨i, s⟩, hx⟩ := x
    dsimp only at bX ha hb ⊢
    obtain ⟨mm, hmm⟩ : ∃ mm, mm = minF l p pre := ⟨_, rfl⟩
    rw [← hmm] at c2
    have l1 := lt_block c1
    have l2 : w.heap.size + 1 < W.heap.size := lt_block c2
    have l3 := lt_block c3
    have lX := lt_block bX
    have hcl : Hid (∀ W', Below W.heap.size W W' → (W'.cell? ⟨w.heap.size, 0, none⟩ = some (.int .i64 p.x) ∧ W'.cell? ⟨w.heap.size, 1, none⟩ = some (.int .i64 p.y)) ∧ W'.cell? ⟨w.heap.size + 1, 0, none⟩ = some (.int .i64 mm) ∧ (W'.cell? ⟨Bx, 0, none⟩ = some (.int .i64 s.a.x) ∧ W'.cell? ⟨Bx, 1, none⟩ = some (.int .i64 s.a.y) ∧ W'.cell? ⟨Bx, 2, none⟩ = some (.int .i64 s.b.x) ∧ W'.cell? ⟨Bx, 3, none⟩ = some (.int .i64 s.b.y))) := fun W' h =>
      ⟨cells2 ((h.block _ l1).trans c1), cells1 ((h.block _ l2).trans c2), cells4 ((h.block _ lX).trans bX)⟩
    gi_wp2
    refine wpIn_region_tree (fun W' => Below W.heap.size W W') (.read 0 (.read 1 (.read 2 (.one 3 (.pure 4 (.one 5 .done)))))) [5] (by kernel_rfl) (by kernel_rfl) (by kernel_rfl) ((Below.refl _ _).drew) ?_
    refine wpTreeIn_take (v := ?_) rfl (by rfl) ?_ (fun _ => by rfl) (fun _ _ _ h => h) ?_
    rotate_left
    focus (intro w' hSw; obtain ⟨⟨z0, z1⟩, y0, x0, x1, x2, x3⟩ := hcl.out _ hSw; clear hSw; (try simp only [List.getElem_toArray, List.getElem_cons_zero, List.getElem_cons_succ]); go_simp; try with_reducible rfl)
    (try simp only [List.getElem_toArray, List.getElem_cons_zero, List.getElem_cons_succ, Act.put, List.setIfInBounds_toArray, List.set_cons_zero, List.set_cons_succ])
    refine wpTreeIn_take (v := ?_) rfl (by rfl) ?_ (fun _ => by rfl) (fun _ _ _ h => h) ?_
    rotate_left
    focus (intro w' hSw; obtain ⟨⟨z0, z1⟩, y0, x0, x1, x2, x3⟩ := hcl.out _ hSw; clear hSw; (try simp only [List.getElem_toArray, List.getElem_cons_zero, List.getElem_cons_succ]); go_simp; try with_reducible rfl)
    (try simp only [List.getElem_toArray, List.getElem_cons_zero, List.getElem_cons_succ, Act.put, List.setIfInBounds_toArray, List.set_cons_zero, List.set_cons_succ])
    refine wpTreeIn_take (v := ?_) rfl (by rfl) ?_ (fun _ => by rfl) (fun _ _ _ h => h) ?_
    rotate_left
    focus (intro w' hSw; obtain ⟨⟨z0, z1⟩, y0, x0, x1, x2, x3⟩ := hcl.out _ hSw; clear hSw; (try simp only [List.getElem_toArray, List.getElem_cons_zero, List.getElem_cons_succ]); go_simp; try with_reducible rfl)
    (try simp only [List.getElem_toArray, List.getElem_cons_zero, List.getElem_cons_succ, Act.put, List.setIfInBounds_toArray, List.set_cons_zero, List.set_cons_succ])
    refine wpTreeIn_do rfl (by rfl) ?_
    (try simp only [List.getElem_toArray, List.getElem_cons_zero, List.getElem_cons_succ])
    go_simp
    refine ⟨trivial, ?_⟩
    gi_at_call 90
    refine (CallsIn.inRound y (callsIn_wide.2 (of_any s p _ ha hb hp))).mono ?_
    rintro e w3 ⟨rfl, hb3⟩
    dsimp only
    have hW3 : Below W.heap.size W w3 := ((Below.refl _ W).drew).trans (hb3.mono (by simp))
    have hc3 := hcl.out _ hW3
    have y0 := hc3.2.1
    have cb3 : w3.heap[w.heap.size + 1]? = some (.cells #[.int .i64 mm] 113 (0, 0)) := (hW3.block _ l2).trans c2
    have f0 := frozen_row cb3 0
    refine ⟨fun _ => hW3, ?_⟩
    (try simp only [List.getElem_toArray, List.getElem_cons_zero, List.getElem_cons_succ, Act.put, List.setIfInBounds_toArray, List.set_cons_zero, List.set_cons_succ])
    refine wpTreeIn_pure (v := ?_) rfl (by rfl) ?_ (fun _ => by rfl) (fun _ _ _ h => h) ?_
    rotate_left
    focus (intro w'; (try simp only [List.getElem_toArray, List.getElem_cons_zero, List.getElem_cons_succ]); go_simp; try with_reducible rfl)
    (try simp only [List.getElem_toArray, List.getElem_cons_zero, List.getElem_cons_succ, Act.put, List.setIfInBounds_toArray, List.set_cons_zero, List.set_cons_succ])
    refine wpTreeIn_do rfl (by rfl) ?_
    (try simp only [List.getElem_toArray, List.getElem_cons_zero, List.getElem_cons_succ])
    go_simp
    (try simp only [List.getElem_toArray, List.getElem_cons_zero, List.getElem_cons_succ, Act.put, List.setIfInBounds_toArray, List.set_cons_zero, List.set_cons_succ])
    (try unfold wpTreeIn)
    gi_wp2
    have hne1 : w.heap.size + 1 < w3.heap.size := Nat.lt_of_lt_of_le l2 hW3.size
    refine ⟨(⟨hW3.size, fun k o _ h0 _ => (hW3.block k (lt_block h0)).trans h0⟩ : KeepsFrom _ W w3).trans ((KeepsOthers.setCell _ _ _).from _), ⟨(hW3.mono hB.size).setCell (p := ⟨w.heap.size + 1, 0, none⟩) (by simp) _, (Below.heap_setCell _ _ _ _ (by simp)).trans (hW3.block _ l3)⟩, ⟨⟨(Below.heap_setCell _ _ _ _ (by simp)).trans ((hW3.block _ l1).trans c1), ?_⟩, (Below.heap_setCell _ _ _ _ (by simp)).trans ((hW3.block _ l3).trans c3)⟩, (hB.trans (hW3.mono hB.size)).setCell (p := ⟨w.heap.size + 1, 0, none⟩) (by simp) _⟩
    rw [minF_snoc, ← hmm]
    exact set_cells cb3 _
  case done =>
    rintro D ys W hD rfl ⟨⟨⟨c1, c2⟩, c3⟩, hB⟩ hK
    rw [minF_all] at c2
    have y0 := c2.cell
    gi_wp2
    refine ⟨by simp, .inl ⟨_, _, rfl, run_takeDeferred hK, ?_⟩⟩
    exact ⟨_, results_tmp rfl _ _ _, rfl, hB.trans (belowK_b (w := w) (Nat.le_refl _) W D _ _ (by omega) hK rfl rfl)⟩
  case stop =>
    rintro D c' pre W _ _ h _
    exact h.elim
end Go.Proofs.YthojfhdenfhjfaaDoor
end
section
namespace Go.Proofs.YthojfhdenfhjfaaDoor
open Go.RowKit Go.Lib

def idxB {α : Type} (Pb : α → Bool) (l : List α) : Int := if l.any Pb then l.findIdx Pb else -1
theorem idxB_none {α : Type} {Pb : α → Bool} {l : List α} (h : ∀ j (hj : j < l.length), Pb l[j] = false) : idxB Pb l = -1 := by
  have : l.any Pb = false := List.any_eq_false.2 fun x hx => by
    obtain ⟨j, hj, rfl⟩ := List.getElem_of_mem hx
    rw [h j hj]; decide
  unfold idxB
  rw [this]; rfl
theorem idxB_at {α : Type} {Pb : α → Bool} {l : List α} {k : Nat} (hk : k < l.length) (h : ∀ j (hj : j < k), Pb (l[j]'(by omega)) = false) (h1 : Pb l[k] = true) : idxB Pb l = k := by
  have : l.any Pb = true := List.any_eq_true.2 ⟨_, List.getElem_mem hk, h1⟩
  unfold idxB
  rw [this, if_pos rfl]
  congr 1
  refine (List.findIdx_eq hk).2 ⟨h1, fun j hj => by rw [h j hj]⟩
theorem idxB_ge {α : Type} (Pb : α → Bool) (l : List α) : decide (0 ≤ idxB Pb l) = l.any Pb := by
  unfold idxB
  cases l.any Pb with
  | true => rw [if_pos rfl]; exact decide_eq_true (by omega)
  | false => rfl
set_option maxHeartbeats 1000000 in
set_option maxRecDepth 100000 in
theorem idxAt_any (A : Option Addr) (c : Nat) (l : List Pnt) (w : World) (hA : RdPnts w A l) (hl : l.length ≤ 1000000) (gf : Nat) (caps : Array Value) (eg : ∀ args W, (callFunc gf args).run Tryd.prog W = .ok (.enter gf args) W) (Pb : Pnt → Bool)
    (hP : ∀ q ∈ l, ∀ W, Below w.heap.size w W → Calls Tryd.prog gf (#[pntVal q] ++ caps) W fun e w' => e = .returned (.bool (Pb q)) ∧ Below W.heap.size W w') :
    Calls Tryd.prog 117 #[.slice A l.length c, .func (.func gf) #[] caps] w fun e w' => e = .returned (.int .i64 (idxB Pb l)) ∧ Below w.heap.size w w' := by
  go_enter Tryd.func117, Tryd.ntmps117
  go_wp2
  go_loopw [8] (fun i wr => ∃ k : Nat, i = .int .i64 k ∧ k ≤ l.length ∧ Hid (∀ j (hj : j < k) (hj2 : j < l.length), Pb l[j] = false) ∧ Hid (Below w.heap.size w wr)) (fun i _ => l.length - (intOf i).toNat)
  case atStart => exact ⟨0, rfl, Nat.zero_le _, fun j hj => absurd hj (Nat.not_lt_zero _), Below.refl _ _⟩
  case round =>
    obtain ⟨k, rfl, hk, hno, hb⟩ := hrel
    by_cases hlt : k < l.length
    · obtain ⟨ad, hA', p0, p1⟩ := (hA.below hb.out).at2 hlt
      have hq := hP _ (List.getElem_mem hlt) wr hb.out
      have e : l.getD k default = l[k] := by simp [List.getD_eq_getElem?_getD, hlt]
      rw [e] at p0 p1
      obtain ⟨q, hqe⟩ : ∃ q, q = l[k] := ⟨_, rfl⟩
      rw [← hqe] at p0 p1 hq
      subst hA'
      replace hqe := Lib.hid hqe
      replace e := Lib.hid e
      cases hpb : Pb q with
      | true =>
        rw [hpb] at hq
        replace hq := Lib.hid hq
        go_wp2
        (with_reducible refine hq.out.mono ?_)
        rintro e' w1 ⟨rfl, hb1⟩
        go_wp2
        go_ret
        exact ⟨by rw [idxB_at hlt (fun j hj => hno.out j hj (by omega)) (by rw [← hqe.out]; exact hpb)]; rfl, hb.out.trans (hb1.mono hb.out.size)⟩
      | false =>
        rw [hpb] at hq
        replace hq := Lib.hid hq
        go_wp2
        (with_reducible refine hq.out.mono ?_)
        rintro e' w1 ⟨rfl, hb1⟩
        go_wp2
        exact ⟨⟨k + 1, by go_num, by omega, fun j hj hj2 => (by
          rcases Nat.lt_or_ge j k with h1 | h1
          · exact hno.out j h1 hj2
          · obtain rfl : j = k := by omega
            rw [← hqe.out]; exact hpb), hb.out.trans (hb1.mono hb.out.size)⟩, by simp only [intOf]; omega⟩
    · obtain rfl : k = l.length := by omega
      go_wp2
      go_ret
      exact ⟨by rw [idxB_none fun j hj => hno.out j hj hj]; rfl, hb.out⟩
theorem hasAt_any (A : Option Addr) (c : Nat) (l : List Pnt) (w : World) (hA : RdPnts w A l) (hl : l.length ≤ 1000000) (gf : Nat) (caps : Array Value) (eg : ∀ args W, (callFunc gf args).run Tryd.prog W = .ok (.enter gf args) W) (Pb : Pnt → Bool)
    (hP : ∀ q ∈ l, ∀ W, Below w.heap.size w W → Calls Tryd.prog gf (#[pntVal q] ++ caps) W fun e w' => e = .returned (.bool (Pb q)) ∧ Below W.heap.size W w') :
    Calls Tryd.prog 80 #[.slice A l.length c, .func (.func gf) #[] caps] w fun e w' => e = .returned (.bool (l.any Pb)) ∧ Below w.heap.size w w' := by
  have hg := Lib.hid (idxB_ge Pb l)
  obtain ⟨x, hx⟩ : ∃ x, x = idxB Pb l := ⟨_, rfl⟩
  have h1 := hx ▸ idxAt_any A c l w hA hl gf caps eg Pb hP
  rw [← hx] at hg
  replace h1 := Lib.hid h1
  replace hx := Lib.hid hx
  go_enter Tryd.func80, Tryd.ntmps80
  go_wp2_with (go_at_call 117; (with_reducible refine h1.out.mono ?_); rintro e w1 ⟨rfl, hb1⟩)
  go_ret
  exact ⟨by rw [← hg.out]; rfl, hb1⟩
end Go.Proofs.YthojfhdenfhjfaaDoor
end
section
namespace Go.Proofs.YthojfhdenfhjfaaDoor
open Go.RowKit Go.Lib Go.Shelf

theorem sgn_up (n : Int) : decide (0 < sgn n) = decide (0 < n) := by
  rw [Bool.eq_iff_iff]; simp only [decide_eq_true_eq]; unfold sgn; split <;> (try split) <;> omega
theorem sgn_down (n : Int) : decide (sgn n < 0) = decide (n < 0) := by
  rw [Bool.eq_iff_iff]; simp only [decide_eq_true_eq]; unfold sgn; split <;> (try split) <;> omega
/-- The body's function: whether a point lies to the left of the edge at hand. -/
theorem parted1_any (s : Sd) (p : Pnt) (Bx : Nat) (w : World) (bX : w.heap[Bx]? = some (.cells (sdCells s) 100 (0, 0))) (ha : SmP s.a 1000000) (hb : SmP s.b 1000000) (hp : SmP p 1000000) :
    Calls Tryd.prog 89 #[pntVal p, .pointer (some ⟨Bx, 0, none⟩)] w fun e w' => e = .returned (.bool (decide (0 < leftS s p))) ∧ Below w.heap.size w w' := by
  have lX := lt_block bX
  have bX' := heap_old w (.cells #[.int .i64 p.x, .int .i64 p.y] 39) _ _ bX
  obtain ⟨x0, x1, x2, x3⟩ := cells4 bX'
  have hbw : Below w.heap.size w (w.alloc (.cells #[.int .i64 p.x, .int .i64 p.y] 39)) := (Below.refl _ w).alloc (Nat.le_refl _) _
  replace hbw := Lib.hid hbw
  have hup := Lib.hid (sgn_up (leftS s p))
  go_enter Tryd.func89, Tryd.ntmps89
  go_wp2_with (first | (go_at_call 90; (with_reducible refine (of_any s p _ ha hb hp).mono ?_); rintro e w1 ⟨rfl, hb1⟩) | (go_at_call 87; (with_reducible refine (up_any _ _).mono ?_); rintro e w2 ⟨rfl, rfl⟩))
  go_ret
  exact ⟨by rw [← hup.out]; rfl, hbw.out.trans (hb1.mono hbw.out.size)⟩
end Go.Proofs.YthojfhdenfhjfaaDoor
end
section
namespace Go.Proofs.YthojfhdenfhjfaaDoor
open Go.RowKit Go.Lib Go.Shelf

attribute [local go_sem] Oper.semAt_some
/-- A part of the edges, none of which parts. -/
def noneP {l : List Pnt} (b : List Pnt) (pre : List (SideOf l)) : Prop := ∀ x ∈ pre, (b.any fun p => decide (0 < leftS x.1.2 p)) = true
def someP {l : List Pnt} (b : List Pnt) (pre : List (SideOf l)) : Prop := ∃ x ∈ pre, (b.any fun p => decide (0 < leftS x.1.2 p)) = false
theorem mem_sides {l : List Pnt} (x : SideOf l) : x.1.2 ∈ sidesL l := by
  obtain ⟨x, hx⟩ := x
  obtain ⟨k, hk, rfl⟩ := List.mem_map.1 hx
  exact List.mem_map.2 ⟨k, hk, rfl⟩
theorem parted_none {l b : List Pnt} (h : noneP b (sidesS l)) : partedB l b = false := by
  unfold partedB
  refine List.any_eq_false.2 fun s hs => ?_
  obtain ⟨k, hk, rfl⟩ := List.mem_map.1 hs
  have hm : (k, sideAt l k) ∈ sidesI l := List.mem_map.2 ⟨k, hk, rfl⟩
  have := h ⟨_, hm⟩ (List.mem_attach _ _)
  rw [this]; decide
theorem parted_some {l b : List Pnt} {pre : List (SideOf l)} (h : someP b pre) : partedB l b = true := by
  obtain ⟨x, _, hx⟩ := h
  unfold partedB
  exact List.any_eq_true.2 ⟨_, mem_sides x, by rw [hx]; rfl⟩
set_option maxHeartbeats 2000000 in
set_option maxRecDepth 100000 in
theorem parted_any (A B : Option Addr) (c cb : Nat) (l b : List Pnt) (w : World) (hA : RdPnts w A l) (hBb : RdPnts w B b) (hl : l.length ≤ 100000) (hlb : b.length ≤ 1000000) (hs : ∀ q ∈ l, SmP q 1000000) (hsb : ∀ q ∈ b, SmP q 1000000) :
    Calls Tryd.prog 45 #[.slice A l.length c, .slice B b.length cb] w fun e w' => e = .returned (.bool (partedB l b)) ∧ Below w.heap.size w w' := by
  have eg89 := enters_of Tryd.func89 (by kernel_rfl) rfl
  refine (callsIn_wide (n := 5)).1 ?_
  refine callsIn_of_wp_marks Tryd.func45 rfl trivial ?_ rfl
  simp only [Tryd.ntmps45, List.size_toArray, List.length_cons, List.length_nil, Nat.reduceAdd, Nat.reduceSub, Array.replicate_succ, Array.replicate_zero, List.push_toArray, List.append_toArray, List.nil_append, List.cons_append]
  gi_wp2_with (refine ⟨trivial, ?_⟩; gi_at_call 46; refine (callsIn_wide.2 (sides_any A l.length c _)).mono ?_; rintro e w' ⟨rfl, rfl⟩)
  obtain ⟨W0, hW0⟩ : ∃ W0, W0 = (((w.alloc (.cells #[.slice B b.length cb] 43)).alloc (.cells #[.bool false] 4)).alloc (.cells #[.slice A l.length c] 43)) := ⟨_, rfl⟩
  rw [← hW0]
  have cP : Boxed W0 w.heap.size 43 (.slice B b.length cb) := by rw [hW0]; exact heap_old _ _ _ _ (heap_old _ _ _ _ (heap_new _ _ _ rfl))
  have cO : Boxed W0 (w.heap.size + 1) 4 (.bool false) := by rw [hW0]; exact heap_old _ _ _ _ (heap_new _ _ _ (by simp))
  have cS : W0.heap[w.heap.size + 1 + 1]? = some (.cells #[.slice A l.length c] 43 (0, 0)) := by rw [hW0]; exact heap_new _ _ _ (by simp)
  have hB0 : Below w.heap.size w W0 := by rw [hW0]; exact (((Below.refl _ w).alloc (Nat.le_refl _) _).alloc (by simp) _).alloc (by simp; omega) _
  have hsz : W0.heap.size = w.heap.size + 3 := by rw [hW0]; simp
  replace hW0 := Lib.hid hW0
  refine wpIn_rangeFunc_ownH rfl (by decide) (gf := 91) (lb := #[.pointer (some ⟨w.heap.size + 1 + 1, 0, none⟩)]) rfl trivial (enters_of Tryd.func91 (by kernel_rfl) rfl)
    (sides_stops Fence.wide 4 trivial rfl (by decide) (w.heap.size + 1 + 1) w.heap.size A c l w W0 hA (Nat.le_refl _) hB0 (by omega) hl cS) KpS_t (KpS_b (by omega) (by omega)) (Below.refl _ _) (fun _ => rfl)
    (fun pre W => (((noneP b pre ∧ Boxed W w.heap.size 43 (.slice B b.length cb)) ∧ Boxed W (w.heap.size + 1) 4 (.bool false)) ∧ W.heap[w.heap.size + 1 + 1]? = some (.cells #[.slice A l.length c] 43 (0, 0))) ∧ Below w.heap.size w W)
    (fun c' pre W => ((c' = .ret ∧ someP b pre) ∧ Boxed W (w.heap.size + 1) 4 (.bool true)) ∧ Below w.heap.size w W)
    (OwnFrom.and (OwnFrom.and (OwnFrom.and (OwnFrom.and (ownFrom_pure _ _) (Own.from (boxed_own _ _ _) _)) (Own.from (boxed_own _ _ _) _)) (Own.from (block_own _ _ _) _)) (ownFrom_below (Nat.le_refl _) (by omega)))
    (fun c' => OwnFrom.and (OwnFrom.and (ownFrom_pure _ _) (Own.from (boxed_own _ _ _) _)) (ownFrom_below (Nat.le_refl _) (by omega)))
    ⟨⟨⟨⟨(fun x hx => by cases hx), cP⟩, cO⟩, cS⟩, hB0⟩
    (fun x a' W => ∃ Bx, w.heap.size + 1 + 1 < Bx ∧ W.heap[Bx]? = some (.cells (sdCells x.1.2) 100 (0, 0)) ∧ a' = { tmps := #[.slice A l.length c, .slice B b.length cb, undef, .pointer (some ⟨w.heap.size, 0, none⟩), .pointer (some ⟨w.heap.size + 1, 0, none⟩), undef, .pointer (some ⟨Bx, 0, none⟩), .slice A l.length c, .func (.func 91) #[] #[.pointer (some ⟨w.heap.size + 1 + 1, 0, none⟩)], .int .i64 (x.1.1 : Int), .agg (sdCells x.1.2), undef, undef, undef, undef], defers := [] })
    (fun x a' _ X Y row hs hg hr => by obtain ⟨Bx, e1, e2, e3⟩ := hs; exact ⟨Bx, e1, block_own Bx (fun (_ : Unit) => sdCells x.1.2) 100 () X Y row e2 hg (fun r e => (hr r e).2), e3⟩)
    ?assign ?body ?done ?stop
  case assign =>
    rintro y pre x W K ⟨⟨⟨⟨hn, c1⟩, c2⟩, c3⟩, hB⟩ hK
    unfold encSide
    gi_wp2
    exact hK _ _ ((KeepsOthers.alloc _ _).from _) ⟨(Below.refl _ W).alloc hB.size _, (heap_old _ _ _ _ c3).trans c3.symm⟩ ⟨⟨⟨⟨hn, heap_old _ _ _ _ c1⟩, heap_old _ _ _ _ c2⟩, heap_old _ _ _ _ c3⟩, hB.alloc hB.size _⟩ ⟨W.heap.size, lt_block c3, heap_new _ _ _ rfl, rfl⟩
  case body =>
    rintro y pre x a' W hy ⟨r, hr⟩ ⟨⟨⟨⟨hn, c1⟩, c2⟩, c3⟩, hB⟩ ⟨Bx, hBx, bX, rfl⟩ hlt
    obtain ⟨ha, hb⟩ := side_small hs x
    have hsn : ∀ bb, (b.any fun p => decide (0 < leftS x.1.2 p)) = bb → (bb = true → noneP b (pre ++ [x])) ∧ (bb = false → someP b (pre ++ [x])) := fun bb e => ⟨fun h z hz => by
      rcases List.mem_append.1 hz with h1 | h1
      · exact hn z h1
      · rw [List.mem_singleton] at h1; subst h1; rw [e, h], fun h => ⟨x, by simp, by rw [e, h]⟩⟩
    obtain ⟨⟨i, s⟩, hx⟩ := x
    dsimp only at bX ha hb hsn ⊢
    have l1 : w.heap.size < W.heap.size := lt_block c1
    have l2 : w.heap.size + 1 < W.heap.size := lt_block c2
    have l3 := lt_block c3
    have lX := lt_block bX
    obtain ⟨bb, hbb⟩ : ∃ bb, (b.any fun p => decide (0 < leftS s p)) = bb := ⟨_, rfl⟩
    have c80 : Hid (Calls Tryd.prog 80 #[.slice B b.length cb, .func (.func 89) #[] #[.pointer (some ⟨Bx, 0, none⟩)]] W fun e w' => e = .returned (.bool bb) ∧ Below W.heap.size W w') :=
      hbb ▸ hasAt_any B cb b W (hBb.below hB) hlb 89 #[.pointer (some ⟨Bx, 0, none⟩)] eg89 (fun p => decide (0 < leftS s p)) (fun q hq W' hW' => parted1_any s q Bx W' ((hW'.block _ lX).trans bX) ha hb (hsb q hq))
    obtain ⟨hs1, hs2⟩ := hsn bb hbb
    clear hsn
    have y0 := c1.cell
    replace hbb := Lib.hid hbb
    replace hs1 := Lib.hid hs1
    replace hs2 := Lib.hid hs2
    have fin : Hid (∀ w3, Below W.heap.size W w3 → KeepsFrom W0.heap.size W w3 ∧ KpS w.heap.size (w.heap.size + 1 + 1) W w3 ∧ Boxed w3 w.heap.size 43 (.slice B b.length cb) ∧ Boxed w3 (w.heap.size + 1) 4 (.bool false) ∧ w3.heap[w.heap.size + 1 + 1]? = some (.cells #[.slice A l.length c] 43 (0, 0)) ∧ Below w.heap.size w w3) := fun w3 h =>
      ⟨⟨h.size, fun k o _ h0 _ => (h.block k (lt_block h0)).trans h0⟩, ⟨h.mono hB.size, h.block _ l3⟩, (h.block _ l1).trans c1, (h.block _ l2).trans c2, (h.block _ l3).trans c3, hB.trans (h.mono hB.size)⟩
    cases bb
    all_goals
      gi_wp2_with (refine ⟨trivial, ?_⟩; gi_at_call 80; refine (CallsIn.inRound y (callsIn_wide.2 c80.out)).mono ?_; rintro e w3 ⟨rfl, hb3⟩; obtain ⟨k1, k2, k3, k4, k5, k6⟩ := fin.out _ hb3; have z0 := k4.cell; have f0 := k4.frozen)
    · exact ⟨k1.trans ((KeepsOthers.setCell _ _ _).from _), ⟨⟨rfl, hs2.out (by first | rfl | trivial)⟩, k4.set _⟩, k6.setCell (p := ⟨w.heap.size + 1, 0, none⟩) (by simp) _⟩
    · exact ⟨k1, k2, ⟨⟨⟨hs1.out (by first | rfl | trivial), k3⟩, k4⟩, k5⟩, k6⟩
  case done =>
    rintro D ys W hD rfl ⟨⟨⟨⟨hn, c1⟩, c2⟩, c3⟩, hB⟩ hK
    have z0 := c2.cell
    have f0 := c2.frozen
    have hres := Lib.hid (parted_none hn)
    gi_wp2
    have hK' := (KeepsOthers.setCell W ⟨w.heap.size + 1, 0, none⟩ (.bool false)).same D _ hK rfl
    refine ⟨by simp, .inl ⟨_, _, rfl, run_takeDeferred hK', ?_⟩⟩
    have hc5 := cell_kept (c2.set (.bool false)).cell (grownBy_putObj' _ D (.deferred none)) (fun r e => by cases e; exact ⟨_, hK', rfl⟩)
    refine ⟨.bool false, ?_, by rw [hres.out], (hB.setCell (p := ⟨w.heap.size + 1, 0, none⟩) (by simp) _).trans (belowK_b (w := w) (Nat.le_refl _) _ D _ _ (by omega) hK' rfl rfl)⟩
    simp [results, Tryd.f45, go_sem, hc5]
  case stop =>
    rintro D c' pre W hD _ ⟨⟨⟨rfl, hn⟩, c2⟩, hB⟩ hK
    have hres := Lib.hid (parted_some hn)
    gi_wp2
    refine ⟨by simp, .inl ⟨_, _, rfl, run_takeDeferred hK, ?_⟩⟩
    have hc5 := cell_kept c2.cell (grownBy_putObj' _ D (.deferred none)) (fun r e => by cases e; exact ⟨_, hK, rfl⟩)
    refine ⟨.bool true, ?_, by rw [hres.out], hB.trans (belowK_b (w := w) (Nat.le_refl _) _ D _ _ (by omega) hK rfl rfl)⟩
    simp [results, Tryd.f45, go_sem, hc5]
end Go.Proofs.YthojfhdenfhjfaaDoor
end
section
namespace Go.Proofs.YthojfhdenfhjfaaDoor
open Go.RowKit Go.Lib Go.Shelf

attribute [local go_sem] Oper.semAt_some
theorem lastOf_snoc (a : Sd) (m : List Sd) (s : Sd) : lastOf a (m ++ [s]) = s := by simp [lastOf]
theorem good_snoc (l : List Pnt) : ∀ (m : List Sd) (a s : Sd), goodB l a (m ++ [s]) = (goodB l a m && (!downS l s && !turnS (lastOf a m) s))
  | [], a, s => by simp [goodB, lastOf]
  | x :: m, a, s => by
    have e : lastOf a (x :: m) = lastOf x m := by
      unfold lastOf
      cases m with
      | nil => rfl
      | cons y m => simp [List.getLast?_cons]
    rw [List.cons_append, goodB, goodB, good_snoc l m x s, e]
    simp only [Bool.and_assoc]
theorem good_pre (l : List Pnt) : ∀ (m m' : List Sd) (a : Sd), goodB l a m = false → goodB l a (m ++ m') = false
  | [], _, _, h => by cases h
  | x :: m, m', a, h => by
    rw [List.cons_append, goodB]
    rw [goodB] at h
    cases q : (!downS l x && !turnS a x) with
    | false => rfl
    | true =>
      rw [q, Bool.true_and] at h
      rw [good_pre l m m' x h]; rfl
def sdOf {l : List Pnt} (pre : List (SideOf l)) : List Sd := pre.map fun x => x.1.2
theorem sdOf_snoc {l : List Pnt} (pre : List (SideOf l)) (x : SideOf l) : sdOf (pre ++ [x]) = sdOf pre ++ [x.1.2] := by simp [sdOf]
theorem sdOf_all (l : List Pnt) : sdOf (sidesS l) = sidesL l := by
  unfold sdOf sidesS
  have h := List.map_map (f := fun x : SideOf l => x.1) (g := fun y : Nat × Sd => y.2) (l := (sidesI l).attach)
  rw [List.attach_map_subtype_val] at h
  rw [show (fun x : SideOf l => x.1.2) = (fun y : Nat × Sd => y.2) ∘ (fun x : SideOf l => x.1) from rfl, ← h]
  simp [sidesL, sidesI]
theorem convex_bad {l : List Pnt} {k : Nat} (h : goodB l (lastOf default (sidesL l)) (sdOf ((sidesS l).take k)) = false) : convexB l = false := by
  have e : sidesL l = sdOf ((sidesS l).take k) ++ sdOf ((sidesS l).drop k) := by
    unfold sdOf
    rw [← List.map_append, List.take_append_drop]
    exact (sdOf_all l).symm
  unfold convexB
  have := good_pre l _ (sdOf ((sidesS l).drop k)) _ h
  rw [← e] at this
  rw [this]; rfl
/-- A block that lay when the loop began. -/
theorem block_from {β : Type} {B D : Nat} {o : Obj} (hD : D < B) : OwnFrom B (fun (_ : β) W => W.heap[D]? = some o) := fun _ X Y row hs hg hr =>
  (hg.block D (lt_block hs) (fun e => by have := (hr D e.symm).1; omega)).trans hs

theorem sgn_pos (n : Int) : 0 < sgn n ↔ 0 < n := by unfold sgn; split <;> (try split) <;> omega
theorem sgn_neg (n : Int) : sgn n < 0 ↔ n < 0 := by unfold sgn; split <;> (try split) <;> omega
/-- Four stores into one row. -/
def set4 (W : World) (b : Nat) (s : Sd) : World := (((W.setCell ⟨b, 0, none⟩ (.int .i64 s.a.x)).setCell ⟨b, 1, none⟩ (.int .i64 s.a.y)).setCell ⟨b, 2, none⟩ (.int .i64 s.b.x)).setCell ⟨b, 3, none⟩ (.int .i64 s.b.y)
theorem set4_row {W : World} {b : Nat} {la : Sd} (s : Sd) (h : W.heap[b]? = some (.cells (sdCells la) 100 (0, 0))) : (set4 W b s).heap[b]? = some (.cells (sdCells s) 100 (0, 0)) := by
  unfold set4
  rw [set_cells (set_cells (set_cells (set_cells h _) _) _) _]
  simp
theorem set4_other {W : World} {b k : Nat} (s : Sd) (h : k ≠ b) : (set4 W b s).heap[k]? = W.heap[k]? := by
  unfold set4
  rw [Below.heap_setCell _ _ _ _ h, Below.heap_setCell _ _ _ _ h, Below.heap_setCell _ _ _ _ h, Below.heap_setCell _ _ _ _ h]
theorem set4_keeps {W : World} {b : Nat} (s : Sd) : KeepsOthers W (set4 W b s) := (((KeepsOthers.setCell _ _ _).trans (KeepsOthers.setCell _ _ _)).trans (KeepsOthers.setCell _ _ _)).trans (KeepsOthers.setCell _ _ _)
theorem set4_below {W0 W : World} {n b : Nat} (s : Sd) (h : Below n W0 W) (hb : n ≤ b) : Below n W0 (set4 W b s) := (((h.setCell (p := ⟨b, 0, none⟩) hb _).setCell (p := ⟨b, 1, none⟩) hb _).setCell (p := ⟨b, 2, none⟩) hb _).setCell (p := ⟨b, 3, none⟩) hb _
theorem keepsOf {n : Nat} {W W' : World} (h : Below W.heap.size W W') : KeepsFrom n W W' := ⟨h.size, fun k _ _ h0 _ => (h.block k (lt_block h0)).trans h0⟩
theorem smP_at {l : List Pnt} {n : Int} (h : ∀ q ∈ l, SmP q n) {k : Nat} (hk : k < l.length) : SmP (l.getD k default) n := by
  have : l.getD k default = l[k] := by simp [List.getD_eq_getElem?_getD, hk]
  rw [this]; exact h _ (List.getElem_mem hk)
theorem take_snoc {l : List Pnt} {k : Nat} (hk : k < l.length) : l.take (k + 1) = l.take k ++ [l.getD k default] := by
  rw [List.take_add_one, List.getElem?_eq_getElem hk]; simp [List.getD_eq_getElem?_getD, hk]
theorem put_other {W : World} {b k : Nat} (h : k ≠ b) (o : Obj) : (W.putObj b o).heap[k]? = W.heap[k]? := by
  simp [World.putObj, Ne.symm h]
theorem mem_at {l : List Pnt} {k : Nat} (hk : k < l.length) : l.getD k default ∈ l := by
  have : l.getD k default = l[k] := by simp [List.getD_eq_getElem?_getD, hk]
  rw [this]; exact List.getElem_mem hk
theorem sgn_zero (n : Int) : sgn n = 0 ↔ n = 0 := by unfold sgn; split <;> (try split) <;> omega
theorem last_small {a : Sd} {m : List Sd} (ha : SmP a.a 1000000 ∧ SmP a.b 1000000) (hm : ∀ s ∈ m, SmP s.a 1000000 ∧ SmP s.b 1000000) : SmP (lastOf a m).a 1000000 ∧ SmP (lastOf a m).b 1000000 := by
  unfold lastOf
  cases e : m.getLast? with
  | none => exact ha
  | some x => exact hm x (List.mem_of_getLast? e)
/-- What lies about the second loop. -/
structure CvX (w : World) (A : Option Addr) (c : Nat) (l : List Pnt) (n Bs D : Nat) (la : Sd) (u : Bool) (W : World) : Prop where
  c1 : Boxed W n 43 (.slice A l.length c)
  c2 : Boxed W (n + 1) 4 (.bool false)
  c3 : Boxed W (n + 1 + 1) 4 (.bool u)
  c4 : W.heap[n + 1 + 1 + 1]? = some (.cells (sdCells la) 100 (0, 0))
  cS : W.heap[Bs]? = some (.cells #[.slice A l.length c] 43 (0, 0))
  cD : W.heap[D]? = some (.deferred (some []))
  bl : Below n w W
theorem CvX.later {w W W' : World} {A : Option Addr} {c : Nat} {l : List Pnt} {n Bs D : Nat} {la : Sd} {u : Bool} (h : CvX w A c l n Bs D la u W) (hn : n ≤ w.heap.size) (hb : Below W.heap.size W W') : CvX w A c l n Bs D la u W' :=
  ⟨(hb.block _ (lt_block h.c1)).trans h.c1, (hb.block _ (lt_block h.c2)).trans h.c2, (hb.block _ (lt_block h.c3)).trans h.c3, (hb.block _ (lt_block h.c4)).trans h.c4, (hb.block _ (lt_block h.cS)).trans h.cS, (hb.block _ (lt_block h.cD)).trans h.cD, h.bl.trans (hb.mono (Nat.le_trans hn h.bl.size))⟩
theorem CvX.up {w W : World} {A : Option Addr} {c : Nat} {l : List Pnt} {n Bs D : Nat} {la : Sd} {u : Bool} (h : CvX w A c l n Bs D la u W) (hB : n + 1 + 1 + 1 < Bs) (hD : n + 1 + 1 + 1 < D) : CvX w A c l n Bs D la true (W.setCell ⟨n + 1 + 1, 0, none⟩ (.bool true)) :=
  ⟨(Below.heap_setCell _ _ _ _ (by simp; omega)).trans h.c1, (Below.heap_setCell _ _ _ _ (by simp)).trans h.c2, h.c3.set _, (Below.heap_setCell _ _ _ _ (by simp)).trans h.c4, (Below.heap_setCell _ _ _ _ (by simp; omega)).trans h.cS, (Below.heap_setCell _ _ _ _ (by simp; omega)).trans h.cD, h.bl.setCell (p := ⟨n + 1 + 1, 0, none⟩) (by simp; omega) _⟩
theorem CvX.setr {w W : World} {A : Option Addr} {c : Nat} {l : List Pnt} {n Bs D : Nat} {la : Sd} {u : Bool} (h : CvX w A c l n Bs D la u W) (hB : n + 1 + 1 + 1 < Bs) (hD : n + 1 + 1 + 1 < D) : CvX w A c l n Bs D la u (W.setCell ⟨n + 1, 0, none⟩ (.bool false)) :=
  ⟨(Below.heap_setCell _ _ _ _ (by simp)).trans h.c1, h.c2.set _, (Below.heap_setCell _ _ _ _ (by simp)).trans h.c3, (Below.heap_setCell _ _ _ _ (by simp; omega)).trans h.c4, (Below.heap_setCell _ _ _ _ (by simp; omega)).trans h.cS, (Below.heap_setCell _ _ _ _ (by simp; omega)).trans h.cD, h.bl.setCell (p := ⟨n + 1, 0, none⟩) (by simp) _⟩
theorem CvX.last {w W : World} {A : Option Addr} {c : Nat} {l : List Pnt} {n Bs D : Nat} {la : Sd} {u : Bool} (s : Sd) (h : CvX w A c l n Bs D la u W) (hB : n + 1 + 1 + 1 < Bs) (hD : n + 1 + 1 + 1 < D) : CvX w A c l n Bs D s u (set4 W (n + 1 + 1 + 1) s) :=
  ⟨(set4_other s (by omega)).trans h.c1, (set4_other s (by omega)).trans h.c2, (set4_other s (by omega)).trans h.c3, set4_row s h.c4, (set4_other s (by omega)).trans h.cS, (set4_other s (by omega)).trans h.cD, set4_below s h.bl (by omega)⟩
theorem CvX.own {β : Type} {w : World} {A : Option Addr} {c : Nat} {l : List Pnt} {n Bs D N : Nat} (la : β → Sd) (u : β → Bool) (hw : w.heap.size = n) (hN : n ≤ N) (hD : D < N) : OwnFrom N (fun (s : β) W => CvX w A c l n Bs D (la s) (u s) W) := fun s X Y row hs hg hr =>
  ⟨Own.from (boxed_own n 43 (fun (_ : β) => .slice A l.length c)) N s X Y row hs.c1 hg hr, Own.from (boxed_own (n + 1) 4 (fun (_ : β) => .bool false)) N s X Y row hs.c2 hg hr, Own.from (boxed_own (n + 1 + 1) 4 (fun (s : β) => .bool (u s))) N s X Y row hs.c3 hg hr,
   Own.from (block_own (n + 1 + 1 + 1) (fun (s : β) => sdCells (la s)) 100) N s X Y row hs.c4 hg hr, Own.from (block_own Bs (fun (_ : β) => #[.slice A l.length c]) 43) N s X Y row hs.cS hg hr, block_from (β := β) hD s X Y row hs.cD hg hr, ownFrom_below (β := β) (w₀ := w) (B := N) (by omega) (by omega) s X Y row hs.bl hg hr⟩
set_option maxHeartbeats 4000000 in
set_option maxRecDepth 100000 in
theorem convex_any (A : Option Addr) (c : Nat) (l : List Pnt) (w : World) (hA : RdPnts w A l) (hl : l.length ≤ 100000) (hs : ∀ q ∈ l, SmP q 1000000) :
    Calls Tryd.prog 83 #[.slice A l.length c] w fun e w' => e = .returned (.bool (convexB l)) ∧ Below w.heap.size w w' := by
  refine (callsIn_wide (n := 6)).1 ?_
  refine callsIn_of_wp_marks Tryd.func83 rfl trivial ?_ rfl
  simp only [Tryd.ntmps83, List.size_toArray, List.length_cons, List.length_nil, Nat.reduceAdd, Nat.reduceSub, Array.replicate_succ, Array.replicate_zero, List.push_toArray, List.append_toArray, List.nil_append, List.cons_append]
  gi_wp2_with (refine ⟨trivial, ?_⟩; gi_at_call 46; refine (callsIn_wide.2 (sides_any A l.length c _)).mono ?_; rintro e w' ⟨rfl, rfl⟩)
  obtain ⟨W0, hW0⟩ : ∃ W0, W0 = (((((w.alloc (.cells #[.slice A l.length c] 43)).alloc (.cells #[.bool false] 4)).alloc (.cells #[.bool false] 4)).alloc (.cells (sdCells ⟨⟨0, 0⟩, ⟨0, 0⟩⟩) 100)).alloc (.cells #[.slice A l.length c] 43)) := ⟨_, rfl⟩
  unfold sdCells at hW0
  dsimp only at hW0
  rw [← hW0]
  have cL : Boxed W0 (w.heap.size) 43 (.slice A l.length c) := by rw [hW0]; exact heap_old _ _ _ _ (heap_old _ _ _ _ (heap_old _ _ _ _ (heap_old _ _ _ _ (heap_new _ _ _ rfl))))
  have cR : Boxed W0 (w.heap.size + 1) 4 (.bool false) := by rw [hW0]; exact heap_old _ _ _ _ (heap_old _ _ _ _ (heap_old _ _ _ _ (heap_new _ _ _ (by simp))))
  have cO : Boxed W0 (w.heap.size + 1 + 1) 4 (.bool false) := by rw [hW0]; exact heap_old _ _ _ _ (heap_old _ _ _ _ (heap_new _ _ _ (by simp)))
  have cT : W0.heap[w.heap.size + 1 + 1 + 1]? = some (.cells (sdCells (lastOf default (sdOf ([] : List (SideOf l))))) 100 (0, 0)) := by rw [hW0]; exact heap_old _ _ _ _ (heap_new _ _ _ (by simp))
  have cS : W0.heap[w.heap.size + 1 + 1 + 1 + 1]? = some (.cells #[.slice A l.length c] 43 (0, 0)) := by rw [hW0]; exact heap_new _ _ _ (by simp)
  have hB0 : Below w.heap.size w W0 := by rw [hW0]; exact (((((Below.refl _ w).alloc (Nat.le_refl _) _).alloc (by simp) _).alloc (by simp; omega) _).alloc (by simp; omega) _).alloc (by simp; omega) _
  have hsz : W0.heap.size = w.heap.size + 5 := by rw [hW0]; simp
  replace hW0 := Lib.hid hW0
  refine wpIn_rangeFunc_ownH rfl (by decide) (gf := 91) (lb := #[.pointer (some ⟨w.heap.size + 1 + 1 + 1 + 1, 0, none⟩)]) rfl trivial (enters_of Tryd.func91 (by kernel_rfl) rfl)
    (sides_stops Fence.wide 5 trivial rfl (by decide) (w.heap.size + 1 + 1 + 1 + 1) w.heap.size A c l w W0 hA (Nat.le_refl _) hB0 (by omega) hl cS) KpS_t (KpS_b (by omega) (by omega)) (Below.refl _ _) (fun _ => rfl)
    (fun pre W => ((((Boxed W (w.heap.size) 43 (.slice A l.length c) ∧ Boxed W (w.heap.size + 1) 4 (.bool false)) ∧ Boxed W (w.heap.size + 1 + 1) 4 (.bool false)) ∧ W.heap[w.heap.size + 1 + 1 + 1]? = some (.cells (sdCells (lastOf default (sdOf pre))) 100 (0, 0))) ∧ W.heap[w.heap.size + 1 + 1 + 1 + 1]? = some (.cells #[.slice A l.length c] 43 (0, 0))) ∧ Below w.heap.size w W)
    (fun _ _ _ => False)
    (OwnFrom.and (OwnFrom.and (OwnFrom.and (OwnFrom.and (OwnFrom.and (Own.from (boxed_own _ _ _) _) (Own.from (boxed_own _ _ _) _)) (Own.from (boxed_own _ _ _) _)) (Own.from (block_own _ _ _) _)) (Own.from (block_own _ _ _) _)) (ownFrom_below (Nat.le_refl _) (by omega)))
    (fun _ _ _ _ _ hs _ _ => hs)
    ⟨⟨⟨⟨⟨cL, cR⟩, cO⟩, cT⟩, cS⟩, hB0⟩
    (fun x a' W => ∃ Bx, w.heap.size + 1 + 1 + 1 + 1 < Bx ∧ W.heap[Bx]? = some (.cells (sdCells x.1.2) 100 (0, 0)) ∧ a' = { tmps := #[.slice A l.length c, .pointer (some ⟨w.heap.size, 0, none⟩), .pointer (some ⟨w.heap.size + 1, 0, none⟩), .pointer (some ⟨w.heap.size + 1 + 1, 0, none⟩), .pointer (some ⟨w.heap.size + 1 + 1 + 1, 0, none⟩), undef, .pointer (some ⟨Bx, 0, none⟩), undef, undef, undef, undef, undef, .slice A l.length c, .func (.func 91) #[] #[.pointer (some ⟨w.heap.size + 1 + 1 + 1 + 1, 0, none⟩)], .int .i64 (x.1.1 : Int), .agg (sdCells x.1.2), undef, undef, undef, undef, undef, undef, undef, undef, undef, undef, undef, undef, undef, undef, undef, undef, undef, undef, undef, undef, undef, undef, undef, undef, undef, undef, undef, undef, undef, undef, undef, undef, undef, undef, undef, undef, undef, undef], defers := [] })
    (fun x a' _ X Y row hs hg hr => by obtain ⟨Bx, e1, e2, e3⟩ := hs; exact ⟨Bx, e1, block_own Bx (fun (_ : Unit) => sdCells x.1.2) 100 () X Y row e2 hg (fun r e => (hr r e).2), e3⟩)
    ?assign ?body ?done ?stop
  case assign =>
    rintro y pre x W K ⟨⟨⟨⟨⟨c1, c2⟩, c3⟩, c4⟩, c5⟩, hB⟩ hK
    unfold encSide
    gi_wp2
    exact hK _ _ ((KeepsOthers.alloc _ _).from _) ⟨(Below.refl _ W).alloc hB.size _, (heap_old _ _ _ _ c5).trans c5.symm⟩ ⟨⟨⟨⟨⟨heap_old _ _ _ _ c1, heap_old _ _ _ _ c2⟩, heap_old _ _ _ _ c3⟩, heap_old _ _ _ _ c4⟩, heap_old _ _ _ _ c5⟩, hB.alloc hB.size _⟩ ⟨W.heap.size, lt_block c5, heap_new _ _ _ rfl, rfl⟩
  case body =>
    rintro y pre x a' W hy ⟨r, hr⟩ ⟨⟨⟨⟨⟨c1, c2⟩, c3⟩, c4⟩, c5⟩, hB⟩ ⟨Bx, hBx, bX, rfl⟩ hlt
    obtain ⟨⟨i, s⟩, hx⟩ := x
    dsimp only at bX ⊢
    obtain ⟨la, hla⟩ : ∃ la, la = lastOf default (sdOf pre) := ⟨_, rfl⟩
    rw [← hla] at c4
    have hsn := sdOf_snoc pre ⟨(i, s), hx⟩
    have hlo := lastOf_snoc default (sdOf pre) s
    obtain ⟨x0, x1, x2, x3⟩ := cells4 bX
    obtain ⟨y0, y1, y2, y3⟩ := cells4 c4
    have f0 := frozen_row c4 0
    have f1 := frozen_row c4 1
    have f2 := frozen_row c4 2
    have f3 := frozen_row c4 3
    gi_wp2
    refine ⟨(set4_keeps s).from _, ⟨set4_below s (Below.refl _ _) (by omega), set4_other s (by omega)⟩, ⟨⟨⟨⟨(set4_other s (by omega)).trans c1, (set4_other s (by omega)).trans c2⟩, (set4_other s (by omega)).trans c3⟩, ?_⟩, (set4_other s (by omega)).trans c5⟩, set4_below s hB (by omega)⟩
    rw [hsn, hlo]
    exact set4_row s c4
  case done =>
    rintro D ys W hD rfl ⟨⟨⟨⟨⟨c1, c2⟩, c3⟩, c4⟩, c5⟩, hB⟩ hK
    rw [sdOf_all] at c4
    obtain ⟨lz, hlz⟩ : ∃ lz, lz = lastOf default (sidesL l) := ⟨_, rfl⟩
    rw [← hlz] at c4
    have y0 := c1.cell
    gi_wp2_with (refine ⟨trivial, ?_⟩; gi_at_call 46; refine (callsIn_wide.2 (sides_any A l.length c _)).mono ?_; rintro e w' ⟨rfl, rfl⟩)
    obtain ⟨Bs, hBs⟩ : ∃ Bs, Bs = W.heap.size := ⟨_, rfl⟩
    have lD : D < Bs := by rw [hBs]; exact lt_block hK
    obtain ⟨V, hV⟩ : ∃ V, V = W.alloc (.cells #[.slice A l.length c] 43) := ⟨_, rfl⟩
    have hX0 : CvX w A c l w.heap.size Bs D lz false V := by
      rw [hV, hBs]
      exact ⟨heap_old _ _ _ _ c1, heap_old _ _ _ _ c2, heap_old _ _ _ _ c3, heap_old _ _ _ _ c4, heap_new _ _ _ rfl, heap_old _ _ _ _ hK, hB.alloc hB.size _⟩
    have hVs : V.heap.size = Bs + 1 := by rw [hV, hBs]; simp
    rw [← hV, ← hBs]
    have hlsm : Hid (∀ pre : List (SideOf l), SmP (lastOf lz (sdOf pre)).a 1000000 ∧ SmP (lastOf lz (sdOf pre)).b 1000000) := fun pre => last_small (by rw [hlz]; exact last_small ⟨by unfold SmP; decide, by unfold SmP; decide⟩ (fun s hm => by rw [← sdOf_all] at hm; obtain ⟨x, _, rfl⟩ := List.mem_map.1 hm; exact side_small hs x)) (fun s hm => by obtain ⟨x, _, rfl⟩ := List.mem_map.1 hm; exact side_small hs x)
    replace hV := Lib.hid hV
    replace hBs := Lib.hid hBs
    clear c1 c2 c3 c4 c5 y0 hK
    refine wpIn_rangeFunc_ownH rfl (by decide) (gf := 91) (lb := #[.pointer (some ⟨Bs, 0, none⟩)]) rfl trivial (enters_of Tryd.func91 (by kernel_rfl) rfl)
      (sides_stops Fence.wide 5 trivial rfl (by decide) Bs w.heap.size A c l w V hA (Nat.le_refl _) hX0.bl (by omega) hl hX0.cS) KpS_t (KpS_b (by omega) (by omega)) (Below.refl _ _) (fun _ => rfl)
      (fun pre W => goodB l lz (sdOf pre) = true ∧ CvX w A c l w.heap.size Bs D (lastOf lz (sdOf pre)) ((sdOf pre).any (upS l)) W)
      (fun c' pre W => (c' = .ret ∧ goodB l lz (sdOf pre) = false) ∧ ∃ la u, CvX w A c l w.heap.size Bs D la u W)
      (OwnFrom.and (ownFrom_pure _ _) (CvX.own _ _ rfl (by omega) (by omega)))
      (fun c' => OwnFrom.and (ownFrom_pure _ _) (fun s X Y row ⟨la, u, hs⟩ hg hr => ⟨la, u, CvX.own (β := Unit) (fun _ => la) (fun _ => u) rfl (by omega) (by omega) () X Y row hs hg hr⟩))
      ⟨rfl, hX0⟩
      (fun x a' W => ∃ Bx, Bs < Bx ∧ W.heap[Bx]? = some (.cells (sdCells x.1.2) 100 (0, 0)) ∧ a' = { tmps := #[.slice A l.length c, .pointer (some ⟨w.heap.size, 0, none⟩), .pointer (some ⟨w.heap.size + 1, 0, none⟩), .pointer (some ⟨w.heap.size + 1 + 1, 0, none⟩), .pointer (some ⟨w.heap.size + 1 + 1 + 1, 0, none⟩), undef, undef, undef, .pointer (some ⟨Bx, 0, none⟩), undef, undef, undef, .slice A l.length c, .func (.func 91) #[] #[.pointer (some ⟨w.heap.size + 1 + 1 + 1 + 1, 0, none⟩)], undef, undef, undef, .slice A l.length c, .func (.func 91) #[] #[.pointer (some ⟨Bs, 0, none⟩)], .int .i64 (x.1.1 : Int), .agg (sdCells x.1.2), undef, undef, undef, undef, undef, undef, undef, undef, undef, undef, undef, undef, undef, undef, undef, undef, undef, undef, undef, undef, undef, undef, undef, undef, undef, undef, undef, undef, undef, undef, undef, undef, undef], defers := [] })
      (fun x a' _ X Y row hs hg hr => by obtain ⟨Bx, e1, e2, e3⟩ := hs; exact ⟨Bx, e1, block_own Bx (fun (_ : Unit) => sdCells x.1.2) 100 () X Y row e2 hg (fun r e => (hr r e).2), e3⟩)
      ?assign2 ?body2 ?done2 ?stop2
    case assign2 =>
      rintro y pre x W K ⟨hg, hX⟩ hK
      unfold encSide
      gi_wp2
      exact hK _ _ ((KeepsOthers.alloc _ _).from _) ⟨(Below.refl _ W).alloc hX.bl.size _, (heap_old _ _ _ _ hX.cS).trans hX.cS.symm⟩ ⟨hg, hX.later (Nat.le_refl _) ((Below.refl _ W).alloc (Nat.le_refl _) _)⟩ ⟨W.heap.size, lt_block hX.cS, heap_new _ _ _ rfl, rfl⟩
    case body2 =>
      rintro y pre x a' W hy ⟨r, hr⟩ ⟨hg, hX⟩ ⟨Bx, hBx, bX, rfl⟩ hlt
      obtain ⟨hsa, hsb⟩ := side_small hs x
      have hsn := sdOf_snoc pre x
      obtain ⟨⟨i, s⟩, hx⟩ := x
      dsimp only at bX hsa hsb hsn ⊢
      have hgs := good_snoc l (sdOf pre) lz s
      rw [hg, Bool.true_and, ← hsn] at hgs
      have hls := lastOf_snoc lz (sdOf pre) s
      rw [← hsn] at hls
      have hus : (sdOf (pre ++ [⟨(i, s), hx⟩])).any (upS l) = ((sdOf pre).any (upS l) || upS l s) := by rw [hsn]; simp
      obtain ⟨la, hla⟩ : ∃ la, la = lastOf lz (sdOf pre) := ⟨_, rfl⟩
      obtain ⟨u0, hu0⟩ : ∃ u0, u0 = (sdOf pre).any (upS l) := ⟨_, rfl⟩
      obtain ⟨pp, hpp⟩ : ∃ pp, pp = pre ++ [(⟨(i, s), hx⟩ : SideOf l)] := ⟨_, rfl⟩
      rw [← hu0, ← hla] at hX
      rw [← hpp] at hsn hgs hls hus ⊢
      rw [← hu0] at hus
      rw [← hla] at hgs
      have y1 := hX.c1.cell
      gi_wp2
      gi_loopw [23] (fun i wr => ∃ k : Nat, i = .int .i64 k ∧ k ≤ l.length ∧ Hid ((l.take k).any (fun p => decide (leftS s p < 0)) = false) ∧ Hid (CvX w A c l w.heap.size Bs D la (u0 || (l.take k).any (fun p => decide (0 < leftS s p))) wr) ∧ Hid (wr.heap[Bx]? = some (.cells (sdCells s) 100 (0, 0))) ∧ Hid (KeepsFrom V.heap.size W wr) ∧ Hid (KpS w.heap.size Bs W wr)) (fun i _ => l.length - (intOf i).toNat)
      case atStart => exact ⟨0, rfl, Nat.zero_le _, rfl, by simpa [Hid] using hX, bX, KeepsFrom.refl _ _, Below.refl _ _, rfl⟩
      case round =>
        obtain ⟨k, rfl, hk, hnd, hXk, hbk, hkf, hkp⟩ := hrel
        by_cases hlt2 : k < l.length
        · obtain ⟨ad, hA', p0, p1⟩ := (hA.below hXk.out.bl).at2 hlt2
          subst hA'
          obtain ⟨p, hp⟩ : ∃ p, p = l.getD k default := ⟨_, rfl⟩
          have hps : SmP p 1000000 := by rw [hp]; exact smP_at hs hlt2
          have htk := take_snoc hlt2
          rw [← hp] at p0 p1 htk
          have hwk : IntKind.i64.wrap ((k : Int) + 1) = (k : Int) + 1 := IntWalk.i64_in _ (by omega)
          have hne : ¬ l = [] := fun e => by rw [e] at hlt2; exact absurd hlt2 (Nat.not_lt_zero _)
          replace hp := Lib.hid hp
          replace htk := Lib.hid htk
          obtain ⟨x0, x1, x2, x3⟩ := cells4 (heap_old wr (.cells #[.int .i64 p.x, .int .i64 p.y] 39) _ _ hbk.out)
          obtain ⟨q0, q1⟩ := cells2 (heap_new wr (.cells #[.int .i64 p.x, .int .i64 p.y] 39) _ rfl)
          have hXa : Hid (CvX w (some ad) c l w.heap.size Bs D la (u0 || (l.take k).any (fun p => decide (0 < leftS s p))) (wr.alloc (.cells #[.int .i64 p.x, .int .i64 p.y] 39))) := hXk.out.later (Nat.le_refl _) ((Below.refl _ _).alloc (Nat.le_refl _) _)
          have hba : Hid (Below wr.heap.size wr (wr.alloc (.cells #[.int .i64 p.x, .int .i64 p.y] 39))) := (Below.refl _ _).alloc (Nat.le_refl _) _
          obtain ⟨v, hv⟩ : ∃ v, v = sgn (leftS s p) := ⟨_, rfl⟩
          have hvp := sgn_pos (leftS s p)
          have hvn := sgn_neg (leftS s p)
          rw [← hv] at hvp hvn
          have c90 : Hid (∀ W, Calls Tryd.prog 90 #[.agg (sdCells s), pntVal p] W fun e w' => e = .returned (.int .i64 v) ∧ Below W.heap.size W w') := fun W => by rw [hv]; exact of_any s p W hsa hsb hps
          replace hv := Lib.hid hv
          replace hvp := Lib.hid hvp
          replace hvn := Lib.hid hvn
          have fin : Hid (∀ w3, Below (wr.alloc (.cells #[.int .i64 p.x, .int .i64 p.y] 39)).heap.size (wr.alloc (.cells #[.int .i64 p.x, .int .i64 p.y] 39)) w3 → KeepsFrom V.heap.size W w3 ∧ KpS w.heap.size Bs W w3 ∧ w3.heap[Bx]? = some (.cells (sdCells s) 100 (0, 0))) := fun w3 h =>
            have h' : Below wr.heap.size wr w3 := hba.out.trans (h.mono (by simp))
            ⟨hkf.out.trans (keepsOf h'), KpS_t hkp.out ⟨h'.mono hXk.out.bl.size, h'.block _ (lt_block hXk.out.cS)⟩, (h'.block _ (lt_block hbk.out)).trans hbk.out⟩
          by_cases hd : v < 0
          · gi_wp2_with (first | (refine ⟨trivial, ?_⟩; gi_at_call 90; (with_reducible refine (CallsIn.inRound y (callsIn_wide.2 (c90.out _))).mono ?_); rintro e w3 ⟨rfl, hb3⟩; have hX3 := hXa.out.later (Nat.le_refl _) hb3; have z2 := hX3.c2.cell; have f2 := hX3.c2.frozen) | (refine ⟨trivial, ?_⟩; gi_at_call 61; (with_reducible refine (CallsIn.inRound y (callsIn_wide.2 (down_any v _))).mono ?_); rintro e w4 ⟨rfl, rfl⟩))
            obtain ⟨k1, k2, k3⟩ := fin.out _ hb3
            have hdn : downS l s = true := List.any_eq_true.2 ⟨p, by rw [hp.out]; exact mem_at hlt2, decide_eq_true (hvn.out.1 hd)⟩
            refine ⟨k1.trans ((KeepsOthers.setCell _ _ _).from _), ⟨rfl, ?_⟩, la, _, hX3.setr (by omega) (by omega)⟩
            rw [hgs, hdn]; rfl
          · by_cases hu : 0 < v
            · gi_wp2_with (first | (refine ⟨trivial, ?_⟩; gi_at_call 90; (with_reducible refine (CallsIn.inRound y (callsIn_wide.2 (c90.out _))).mono ?_); rintro e w3 ⟨rfl, hb3⟩; have hX3 := hXa.out.later (Nat.le_refl _) hb3; have z2 := hX3.c3.cell; have f2 := hX3.c3.frozen) | (refine ⟨trivial, ?_⟩; gi_at_call 61; (with_reducible refine (CallsIn.inRound y (callsIn_wide.2 (down_any v _))).mono ?_); rintro e w4 ⟨rfl, rfl⟩) | (refine ⟨trivial, ?_⟩; gi_at_call 87; (with_reducible refine (CallsIn.inRound y (callsIn_wide.2 (up_any v _))).mono ?_); rintro e w5 ⟨rfl, rfl⟩))
              obtain ⟨k1, k2, k3⟩ := fin.out _ hb3
              refine ⟨⟨k + 1, rfl, by omega, ?_, ?_, (Below.heap_setCell _ _ _ _ (by simp; omega)).trans k3, k1.trans ((KeepsOthers.setCell _ _ _).from _), KpS_t k2 ⟨(Below.refl _ _).setCell (p := ⟨w.heap.size + 1 + 1, 0, none⟩) (by simp; omega) _, Below.heap_setCell _ _ _ _ (by simp; omega)⟩⟩, ?_⟩
              · unfold Hid
                rw [htk.out, List.any_append, hnd.out]
                simp
                exact Int.not_lt.1 (fun e => absurd (hvn.out.2 e) (by omega))
              · unfold Hid
                rw [htk.out, List.any_append]
                rw [show ([p].any fun p => decide (0 < leftS s p)) = true by simp; exact hvp.out.1 hu, Bool.or_true, Bool.or_true]
                exact hX3.up (by omega) (by omega)
              · simp only [intOf]; omega
            · gi_wp2_with (first | (refine ⟨trivial, ?_⟩; gi_at_call 90; (with_reducible refine (CallsIn.inRound y (callsIn_wide.2 (c90.out _))).mono ?_); rintro e w3 ⟨rfl, hb3⟩; have hX3 := hXa.out.later (Nat.le_refl _) hb3) | (refine ⟨trivial, ?_⟩; gi_at_call 61; (with_reducible refine (CallsIn.inRound y (callsIn_wide.2 (down_any v _))).mono ?_); rintro e w4 ⟨rfl, rfl⟩) | (refine ⟨trivial, ?_⟩; gi_at_call 87; (with_reducible refine (CallsIn.inRound y (callsIn_wide.2 (up_any v _))).mono ?_); rintro e w5 ⟨rfl, rfl⟩))
              obtain ⟨k1, k2, k3⟩ := fin.out _ hb3
              refine ⟨⟨k + 1, rfl, by omega, ?_, ?_, k3, k1, k2⟩, ?_⟩
              · unfold Hid
                rw [htk.out, List.any_append, hnd.out]
                simp
                exact Int.not_lt.1 (fun e => absurd (hvn.out.2 e) (by omega))
              · unfold Hid
                rw [htk.out, List.any_append]
                rw [show ([p].any fun p => decide (0 < leftS s p)) = false by simp; exact Int.not_lt.1 (fun e => absurd (hvp.out.2 e) (by omega)), Bool.or_false]
                exact hX3
              · simp only [intOf]; omega
        · have hkl : k = l.length := by omega
          rw [hkl, List.take_length] at hnd hXk
          clear hkl hk
          have hdn : downS l s = false := hnd.out
          rw [hdn] at hgs
          have hX5 := hXk.out
          rw [show (u0 || l.any fun p => decide (0 < leftS s p)) = (sdOf pp).any (upS l) from hus.symm] at hX5
          obtain ⟨u1, hu1⟩ : ∃ u1, u1 = (sdOf pp).any (upS l) := ⟨_, rfl⟩
          rw [← hu1] at hX5
          clear hXk
          have hcl : Hid (∀ W', Below wr.heap.size wr W' → (W'.cell? ⟨w.heap.size + 1 + 1 + 1, 0, none⟩ = some (.int .i64 la.a.x) ∧ W'.cell? ⟨w.heap.size + 1 + 1 + 1, 1, none⟩ = some (.int .i64 la.a.y) ∧ W'.cell? ⟨w.heap.size + 1 + 1 + 1, 2, none⟩ = some (.int .i64 la.b.x) ∧ W'.cell? ⟨w.heap.size + 1 + 1 + 1, 3, none⟩ = some (.int .i64 la.b.y)) ∧ (W'.cell? ⟨Bx, 0, none⟩ = some (.int .i64 s.a.x) ∧ W'.cell? ⟨Bx, 1, none⟩ = some (.int .i64 s.a.y) ∧ W'.cell? ⟨Bx, 2, none⟩ = some (.int .i64 s.b.x) ∧ W'.cell? ⟨Bx, 3, none⟩ = some (.int .i64 s.b.y))) := fun W' h =>
            ⟨cells4 ((h.block _ (lt_block hX5.c4)).trans hX5.c4), cells4 ((h.block _ (lt_block hbk.out)).trans hbk.out)⟩
          have hlas : SmP la.a 1000000 ∧ SmP la.b 1000000 := by rw [hla]; exact hlsm.out pre
          obtain ⟨hl1, hl2⟩ := hlas
          obtain ⟨wl, hwl⟩ : ∃ wl, wl = wayS la := ⟨_, rfl⟩
          obtain ⟨ws, hws⟩ : ∃ ws, ws = wayS s := ⟨_, rfl⟩
          obtain ⟨cv, hcv⟩ : ∃ cv, cv = crossP wl ws := ⟨_, rfl⟩
          obtain ⟨dv, hdv⟩ : ∃ dv, dv = dotP wl ws := ⟨_, rfl⟩
          have wsm : SmP wl 4000000 ∧ SmP ws 4000000 := by rw [hwl, hws]; exact ⟨way_small hl1 hl2, way_small hsa hsb⟩
          have cA : Hid (∀ W, Calls Tryd.prog 96 #[.agg (sdCells la)] W fun e w' => e = .returned (pntVal wl) ∧ Below W.heap.size W w') := fun W => by rw [hwl]; exact way_any la W hl1 hl2
          have cB : Hid (∀ W, Calls Tryd.prog 96 #[.agg (sdCells s)] W fun e w' => e = .returned (pntVal ws) ∧ Below W.heap.size W w') := fun W => by rw [hws]; exact way_any s W hsa hsb
          have cC : Hid (∀ W, Calls Tryd.prog 69 #[pntVal wl, pntVal ws] W fun e w' => e = .returned (.int .i64 cv) ∧ Below W.heap.size W w') := fun W => by rw [hcv]; exact cross_any wl ws W wsm.1 wsm.2
          have cD : Hid (∀ W, Calls Tryd.prog 95 #[pntVal wl, pntVal ws] W fun e w' => e = .returned (.int .i64 dv) ∧ Below W.heap.size W w') := fun W => by rw [hdv]; exact dot_any wl ws W wsm.1 wsm.2
          obtain ⟨sv, hsv⟩ : ∃ sv, sv = sgn cv := ⟨_, rfl⟩
          have cE : Hid (∀ W, Calls Tryd.prog 108 #[.int .i64 cv] W fun e w' => e = .returned (.int .i64 sv) ∧ W = w') := fun W => by rw [hsv]; exact signOf_any cv W
          have hz : sv = 0 ↔ cv = 0 := by rw [hsv]; exact sgn_zero cv
          have hts : turnS la s = (decide (cv = 0) && decide (dv < 0)) := by rw [hcv, hdv, hwl, hws]; rfl
          have finr : Hid (∀ w3, Below wr.heap.size wr w3 → KeepsFrom V.heap.size W w3 ∧ KpS w.heap.size Bs W w3 ∧ CvX w A c l w.heap.size Bs D la u1 w3 ∧ w3.heap[Bx]? = some (.cells (sdCells s) 100 (0, 0))) := fun w3 h' =>
            ⟨hkf.out.trans (keepsOf h'), KpS_t hkp.out ⟨h'.mono hX5.bl.size, h'.block _ (lt_block hX5.cS)⟩, hX5.later (Nat.le_refl _) h', (h'.block _ (lt_block hbk.out)).trans hbk.out⟩
          replace hwl := Lib.hid hwl
          replace hws := Lib.hid hws
          replace hcv := Lib.hid hcv
          replace hdv := Lib.hid hdv
          replace hsv := Lib.hid hsv
          replace hla := Lib.hid hla
          replace hu1 := Lib.hid hu1
          replace hpp := Lib.hid hpp
          replace hu0 := Lib.hid hu0
          replace hus := Lib.hid hus
          replace hsn := Lib.hid hsn
          replace hls := Lib.hid hls
          replace hlz := Lib.hid hlz
          replace hgs := Lib.hid hgs
          gi_wp2
          rcases (Decidable.em (cv = 0)).imp Lib.hid id with hc | hc
          · by_cases hn : dv < 0
            · have hS0 : Below wr.heap.size wr wr.drew := (Below.refl _ _).drew
              have cF : Hid (∀ W, Calls Tryd.prog 94 #[.int .i64 sv] W fun e w' => e = .returned (.bool true) ∧ W = w') := fun W => by have h := flat_any sv W; rwa [show (sv == 0) = true from beq_iff_eq.2 (hz.2 hc.out)] at h
              refine wpIn_region_tree (fun W' => Below wr.heap.size wr W') (.read 0 (.read 2 (.one 1 (.one 3 (.one 4 (.one 5 (.one 6 (.pure 7 (.read 8 (.read 10 (.one 9 (.one 11 (.one 12 (.pure 13 (.pure 14 .done))))))))))))))) [] (by kernel_rfl) (by kernel_rfl) (by kernel_rfl) ((Below.refl _ _).drew) ?_
              refine wpTreeIn_take (v := ?_) rfl (by rfl) ?_ (fun _ => by rfl) (fun _ _ _ h => h) ?_
              rotate_left
              focus (intro w' hSw; obtain ⟨⟨y0, y1, y2, y3⟩, x0, x1, x2, x3⟩ := hcl.out _ hSw; clear hSw; (try simp only [List.getElem_toArray, List.getElem_cons_zero, List.getElem_cons_succ]); go_simp; try with_reducible rfl)
              (try simp only [List.getElem_toArray, List.getElem_cons_zero, List.getElem_cons_succ, Act.put, List.setIfInBounds_toArray, List.set_cons_zero, List.set_cons_succ])
              refine wpTreeIn_take (v := ?_) rfl (by rfl) ?_ (fun _ => by rfl) (fun _ _ _ h => h) ?_
              rotate_left
              focus (intro w' hSw; obtain ⟨⟨y0, y1, y2, y3⟩, x0, x1, x2, x3⟩ := hcl.out _ hSw; clear hSw; (try simp only [List.getElem_toArray, List.getElem_cons_zero, List.getElem_cons_succ]); go_simp; try with_reducible rfl)
              (try simp only [List.getElem_toArray, List.getElem_cons_zero, List.getElem_cons_succ, Act.put, List.setIfInBounds_toArray, List.set_cons_zero, List.set_cons_succ])
              refine wpTreeIn_do rfl (by rfl) ?_
              (try simp only [List.getElem_toArray, List.getElem_cons_zero, List.getElem_cons_succ])
              go_simp
              refine ⟨trivial, ?_⟩
              gi_at_call 96
              (with_reducible refine (CallsIn.inRound y (callsIn_wide.2 (cA.out _))).mono ?_)
              rintro e w1 ⟨rfl, hbw1⟩
              dsimp only
              have hSw1 : Below wr.heap.size wr w1 := hS0.trans (hbw1.mono hS0.size)
              refine ⟨by intros; exact hSw1, ?_⟩
              (try simp only [List.getElem_toArray, List.getElem_cons_zero, List.getElem_cons_succ, Act.put, List.setIfInBounds_toArray, List.set_cons_zero, List.set_cons_succ])
              refine wpTreeIn_do rfl (by rfl) ?_
              (try simp only [List.getElem_toArray, List.getElem_cons_zero, List.getElem_cons_succ])
              go_simp
              refine ⟨trivial, ?_⟩
              gi_at_call 96
              (with_reducible refine (CallsIn.inRound y (callsIn_wide.2 (cB.out _))).mono ?_)
              rintro e w2 ⟨rfl, hbw2⟩
              dsimp only
              have hSw2 : Below wr.heap.size wr w2 := hSw1.trans (hbw2.mono hSw1.size)
              refine ⟨by intros; exact hSw2, ?_⟩
              (try simp only [List.getElem_toArray, List.getElem_cons_zero, List.getElem_cons_succ, Act.put, List.setIfInBounds_toArray, List.set_cons_zero, List.set_cons_succ])
              refine wpTreeIn_do rfl (by rfl) ?_
              (try simp only [List.getElem_toArray, List.getElem_cons_zero, List.getElem_cons_succ])
              go_simp
              refine ⟨trivial, ?_⟩
              gi_at_call 69
              (with_reducible refine (CallsIn.inRound y (callsIn_wide.2 (cC.out _))).mono ?_)
              rintro e w3 ⟨rfl, hbw3⟩
              dsimp only
              have hSw3 : Below wr.heap.size wr w3 := hSw2.trans (hbw3.mono hSw2.size)
              refine ⟨by intros; exact hSw3, ?_⟩
              (try simp only [List.getElem_toArray, List.getElem_cons_zero, List.getElem_cons_succ, Act.put, List.setIfInBounds_toArray, List.set_cons_zero, List.set_cons_succ])
              refine wpTreeIn_do rfl (by rfl) ?_
              (try simp only [List.getElem_toArray, List.getElem_cons_zero, List.getElem_cons_succ])
              go_simp
              refine ⟨trivial, ?_⟩
              gi_at_call 108
              (with_reducible refine (CallsIn.inRound y (callsIn_wide.2 (cE.out _))).mono ?_)
              rintro e w4 ⟨rfl, rfl⟩
              dsimp only
              refine ⟨by intros; assumption, ?_⟩
              (try simp only [List.getElem_toArray, List.getElem_cons_zero, List.getElem_cons_succ, Act.put, List.setIfInBounds_toArray, List.set_cons_zero, List.set_cons_succ])
              refine wpTreeIn_do rfl (by rfl) ?_
              (try simp only [List.getElem_toArray, List.getElem_cons_zero, List.getElem_cons_succ])
              go_simp
              refine ⟨trivial, ?_⟩
              gi_at_call 94
              (with_reducible refine (CallsIn.inRound y (callsIn_wide.2 (cF.out _))).mono ?_)
              rintro e w5 ⟨rfl, rfl⟩
              dsimp only
              refine ⟨by intros; assumption, ?_⟩
              (try simp only [List.getElem_toArray, List.getElem_cons_zero, List.getElem_cons_succ, Act.put, List.setIfInBounds_toArray, List.set_cons_zero, List.set_cons_succ])
              refine wpTreeIn_pure (v := ?_) rfl (by rfl) ?_ (fun _ => by rfl) (fun _ _ _ h => h) ?_
              rotate_left
              focus (intro w'; (try simp only [List.getElem_toArray, List.getElem_cons_zero, List.getElem_cons_succ]); go_simp; try with_reducible rfl)
              (try simp only [List.getElem_toArray, List.getElem_cons_zero, List.getElem_cons_succ, Act.put, List.setIfInBounds_toArray, List.set_cons_zero, List.set_cons_succ])
              refine wpTreeIn_take (v := ?_) rfl (by rfl) ?_ (fun _ => by rfl) (fun _ _ _ h => h) ?_
              rotate_left
              focus (intro w' hSw; obtain ⟨⟨y0, y1, y2, y3⟩, x0, x1, x2, x3⟩ := hcl.out _ hSw; clear hSw; (try simp only [List.getElem_toArray, List.getElem_cons_zero, List.getElem_cons_succ]); go_simp; try with_reducible rfl)
              (try simp only [List.getElem_toArray, List.getElem_cons_zero, List.getElem_cons_succ, Act.put, List.setIfInBounds_toArray, List.set_cons_zero, List.set_cons_succ])
              refine wpTreeIn_take (v := ?_) rfl (by rfl) ?_ (fun _ => by rfl) (fun _ _ _ h => h) ?_
              rotate_left
              focus (intro w' hSw; obtain ⟨⟨y0, y1, y2, y3⟩, x0, x1, x2, x3⟩ := hcl.out _ hSw; clear hSw; (try simp only [List.getElem_toArray, List.getElem_cons_zero, List.getElem_cons_succ]); go_simp; try with_reducible rfl)
              (try simp only [List.getElem_toArray, List.getElem_cons_zero, List.getElem_cons_succ, Act.put, List.setIfInBounds_toArray, List.set_cons_zero, List.set_cons_succ])
              refine wpTreeIn_do rfl (by rfl) ?_
              (try simp only [List.getElem_toArray, List.getElem_cons_zero, List.getElem_cons_succ])
              go_simp
              refine ⟨trivial, ?_⟩
              gi_at_call 96
              (with_reducible refine (CallsIn.inRound y (callsIn_wide.2 (cA.out _))).mono ?_)
              rintro e w6 ⟨rfl, hbw6⟩
              dsimp only
              have hSw6 : Below wr.heap.size wr w6 := hSw3.trans (hbw6.mono hSw3.size)
              refine ⟨by intros; exact hSw6, ?_⟩
              (try simp only [List.getElem_toArray, List.getElem_cons_zero, List.getElem_cons_succ, Act.put, List.setIfInBounds_toArray, List.set_cons_zero, List.set_cons_succ])
              refine wpTreeIn_do rfl (by rfl) ?_
              (try simp only [List.getElem_toArray, List.getElem_cons_zero, List.getElem_cons_succ])
              go_simp
              refine ⟨trivial, ?_⟩
              gi_at_call 96
              (with_reducible refine (CallsIn.inRound y (callsIn_wide.2 (cB.out _))).mono ?_)
              rintro e w7 ⟨rfl, hbw7⟩
              dsimp only
              have hSw7 : Below wr.heap.size wr w7 := hSw6.trans (hbw7.mono hSw6.size)
              refine ⟨by intros; exact hSw7, ?_⟩
              (try simp only [List.getElem_toArray, List.getElem_cons_zero, List.getElem_cons_succ, Act.put, List.setIfInBounds_toArray, List.set_cons_zero, List.set_cons_succ])
              refine wpTreeIn_do rfl (by rfl) ?_
              (try simp only [List.getElem_toArray, List.getElem_cons_zero, List.getElem_cons_succ])
              go_simp
              refine ⟨trivial, ?_⟩
              gi_at_call 95
              (with_reducible refine (CallsIn.inRound y (callsIn_wide.2 (cD.out _))).mono ?_)
              rintro e w8 ⟨rfl, hbw8⟩
              dsimp only
              have hSw8 : Below wr.heap.size wr w8 := hSw7.trans (hbw8.mono hSw7.size)
              refine ⟨by intros; exact hSw8, ?_⟩
              (try simp only [List.getElem_toArray, List.getElem_cons_zero, List.getElem_cons_succ, Act.put, List.setIfInBounds_toArray, List.set_cons_zero, List.set_cons_succ])
              refine wpTreeIn_pure (v := ?_) rfl (by rfl) ?_ (fun _ => by rfl) (fun _ _ _ h => h) ?_
              rotate_left
              focus (intro w'; (try simp only [List.getElem_toArray, List.getElem_cons_zero, List.getElem_cons_succ]); go_simp; try with_reducible rfl)
              (try simp only [List.getElem_toArray, List.getElem_cons_zero, List.getElem_cons_succ, Act.put, List.setIfInBounds_toArray, List.set_cons_zero, List.set_cons_succ])
              refine wpTreeIn_pure (v := ?_) rfl (by rfl) ?_ (fun _ => by rfl) (fun _ _ _ h => h) ?_
              rotate_left
              focus (intro w'; (try simp only [List.getElem_toArray, List.getElem_cons_zero, List.getElem_cons_succ]); go_simp; try with_reducible rfl)
              (try simp only [List.getElem_toArray, List.getElem_cons_zero, List.getElem_cons_succ, Act.put, List.setIfInBounds_toArray, List.set_cons_zero, List.set_cons_succ])
              (try unfold wpTreeIn)
              obtain ⟨k1, k2, k3, k4⟩ := finr.out _ hSw8
              have z2 := k3.c2.cell
              have f2 := k3.c2.frozen
              gi_wp2
              refine ⟨k1.trans ((KeepsOthers.setCell _ _ _).from _), ⟨rfl, ?_⟩, la, _, k3.setr (by omega) (by omega)⟩
              rw [hgs.out, hts, decide_eq_true hc.out, decide_eq_true hn]; rfl
            · have hS0 : Below wr.heap.size wr wr.drew := (Below.refl _ _).drew
              have cF : Hid (∀ W, Calls Tryd.prog 94 #[.int .i64 sv] W fun e w' => e = .returned (.bool true) ∧ W = w') := fun W => by have h := flat_any sv W; rwa [show (sv == 0) = true from beq_iff_eq.2 (hz.2 hc.out)] at h
              refine wpIn_region_tree (fun W' => Below wr.heap.size wr W') (.read 0 (.read 2 (.one 1 (.one 3 (.one 4 (.one 5 (.one 6 (.pure 7 (.read 8 (.read 10 (.one 9 (.one 11 (.one 12 (.pure 13 (.pure 14 .done))))))))))))))) [] (by kernel_rfl) (by kernel_rfl) (by kernel_rfl) ((Below.refl _ _).drew) ?_
              refine wpTreeIn_take (v := ?_) rfl (by rfl) ?_ (fun _ => by rfl) (fun _ _ _ h => h) ?_
              rotate_left
              focus (intro w' hSw; obtain ⟨⟨y0, y1, y2, y3⟩, x0, x1, x2, x3⟩ := hcl.out _ hSw; clear hSw; (try simp only [List.getElem_toArray, List.getElem_cons_zero, List.getElem_cons_succ]); go_simp; try with_reducible rfl)
              (try simp only [List.getElem_toArray, List.getElem_cons_zero, List.getElem_cons_succ, Act.put, List.setIfInBounds_toArray, List.set_cons_zero, List.set_cons_succ])
              refine wpTreeIn_take (v := ?_) rfl (by rfl) ?_ (fun _ => by rfl) (fun _ _ _ h => h) ?_
              rotate_left
              focus (intro w' hSw; obtain ⟨⟨y0, y1, y2, y3⟩, x0, x1, x2, x3⟩ := hcl.out _ hSw; clear hSw; (try simp only [List.getElem_toArray, List.getElem_cons_zero, List.getElem_cons_succ]); go_simp; try with_reducible rfl)
              (try simp only [List.getElem_toArray, List.getElem_cons_zero, List.getElem_cons_succ, Act.put, List.setIfInBounds_toArray, List.set_cons_zero, List.set_cons_succ])
              refine wpTreeIn_do rfl (by rfl) ?_
              (try simp only [List.getElem_toArray, List.getElem_cons_zero, List.getElem_cons_succ])
              go_simp
              refine ⟨trivial, ?_⟩
              gi_at_call 96
              (with_reducible refine (CallsIn.inRound y (callsIn_wide.2 (cA.out _))).mono ?_)
              rintro e w1 ⟨rfl, hbw1⟩
              dsimp only
              have hSw1 : Below wr.heap.size wr w1 := hS0.trans (hbw1.mono hS0.size)
              refine ⟨by intros; exact hSw1, ?_⟩
              (try simp only [List.getElem_toArray, List.getElem_cons_zero, List.getElem_cons_succ, Act.put, List.setIfInBounds_toArray, List.set_cons_zero, List.set_cons_succ])
              refine wpTreeIn_do rfl (by rfl) ?_
              (try simp only [List.getElem_toArray, List.getElem_cons_zero, List.getElem_cons_succ])
              go_simp
              refine ⟨trivial, ?_⟩
              gi_at_call 96
              (with_reducible refine (CallsIn.inRound y (callsIn_wide.2 (cB.out _))).mono ?_)
              rintro e w2 ⟨rfl, hbw2⟩
              dsimp only
              have hSw2 : Below wr.heap.size wr w2 := hSw1.trans (hbw2.mono hSw1.size)
              refine ⟨by intros; exact hSw2, ?_⟩
              (try simp only [List.getElem_toArray, List.getElem_cons_zero, List.getElem_cons_succ, Act.put, List.setIfInBounds_toArray, List.set_cons_zero, List.set_cons_succ])
              refine wpTreeIn_do rfl (by rfl) ?_
              (try simp only [List.getElem_toArray, List.getElem_cons_zero, List.getElem_cons_succ])
              go_simp
              refine ⟨trivial, ?_⟩
              gi_at_call 69
              (with_reducible refine (CallsIn.inRound y (callsIn_wide.2 (cC.out _))).mono ?_)
              rintro e w3 ⟨rfl, hbw3⟩
              dsimp only
              have hSw3 : Below wr.heap.size wr w3 := hSw2.trans (hbw3.mono hSw2.size)
              refine ⟨by intros; exact hSw3, ?_⟩
              (try simp only [List.getElem_toArray, List.getElem_cons_zero, List.getElem_cons_succ, Act.put, List.setIfInBounds_toArray, List.set_cons_zero, List.set_cons_succ])
              refine wpTreeIn_do rfl (by rfl) ?_
              (try simp only [List.getElem_toArray, List.getElem_cons_zero, List.getElem_cons_succ])
              go_simp
              refine ⟨trivial, ?_⟩
              gi_at_call 108
              (with_reducible refine (CallsIn.inRound y (callsIn_wide.2 (cE.out _))).mono ?_)
              rintro e w4 ⟨rfl, rfl⟩
              dsimp only
              refine ⟨by intros; assumption, ?_⟩
              (try simp only [List.getElem_toArray, List.getElem_cons_zero, List.getElem_cons_succ, Act.put, List.setIfInBounds_toArray, List.set_cons_zero, List.set_cons_succ])
              refine wpTreeIn_do rfl (by rfl) ?_
              (try simp only [List.getElem_toArray, List.getElem_cons_zero, List.getElem_cons_succ])
              go_simp
              refine ⟨trivial, ?_⟩
              gi_at_call 94
              (with_reducible refine (CallsIn.inRound y (callsIn_wide.2 (cF.out _))).mono ?_)
              rintro e w5 ⟨rfl, rfl⟩
              dsimp only
              refine ⟨by intros; assumption, ?_⟩
              (try simp only [List.getElem_toArray, List.getElem_cons_zero, List.getElem_cons_succ, Act.put, List.setIfInBounds_toArray, List.set_cons_zero, List.set_cons_succ])
              refine wpTreeIn_pure (v := ?_) rfl (by rfl) ?_ (fun _ => by rfl) (fun _ _ _ h => h) ?_
              rotate_left
              focus (intro w'; (try simp only [List.getElem_toArray, List.getElem_cons_zero, List.getElem_cons_succ]); go_simp; try with_reducible rfl)
              (try simp only [List.getElem_toArray, List.getElem_cons_zero, List.getElem_cons_succ, Act.put, List.setIfInBounds_toArray, List.set_cons_zero, List.set_cons_succ])
              refine wpTreeIn_take (v := ?_) rfl (by rfl) ?_ (fun _ => by rfl) (fun _ _ _ h => h) ?_
              rotate_left
              focus (intro w' hSw; obtain ⟨⟨y0, y1, y2, y3⟩, x0, x1, x2, x3⟩ := hcl.out _ hSw; clear hSw; (try simp only [List.getElem_toArray, List.getElem_cons_zero, List.getElem_cons_succ]); go_simp; try with_reducible rfl)
              (try simp only [List.getElem_toArray, List.getElem_cons_zero, List.getElem_cons_succ, Act.put, List.setIfInBounds_toArray, List.set_cons_zero, List.set_cons_succ])
              refine wpTreeIn_take (v := ?_) rfl (by rfl) ?_ (fun _ => by rfl) (fun _ _ _ h => h) ?_
              rotate_left
              focus (intro w' hSw; obtain ⟨⟨y0, y1, y2, y3⟩, x0, x1, x2, x3⟩ := hcl.out _ hSw; clear hSw; (try simp only [List.getElem_toArray, List.getElem_cons_zero, List.getElem_cons_succ]); go_simp; try with_reducible rfl)
              (try simp only [List.getElem_toArray, List.getElem_cons_zero, List.getElem_cons_succ, Act.put, List.setIfInBounds_toArray, List.set_cons_zero, List.set_cons_succ])
              refine wpTreeIn_do rfl (by rfl) ?_
              (try simp only [List.getElem_toArray, List.getElem_cons_zero, List.getElem_cons_succ])
              go_simp
              refine ⟨trivial, ?_⟩
              gi_at_call 96
              (with_reducible refine (CallsIn.inRound y (callsIn_wide.2 (cA.out _))).mono ?_)
              rintro e w6 ⟨rfl, hbw6⟩
              dsimp only
              have hSw6 : Below wr.heap.size wr w6 := hSw3.trans (hbw6.mono hSw3.size)
              refine ⟨by intros; exact hSw6, ?_⟩
              (try simp only [List.getElem_toArray, List.getElem_cons_zero, List.getElem_cons_succ, Act.put, List.setIfInBounds_toArray, List.set_cons_zero, List.set_cons_succ])
              refine wpTreeIn_do rfl (by rfl) ?_
              (try simp only [List.getElem_toArray, List.getElem_cons_zero, List.getElem_cons_succ])
              go_simp
              refine ⟨trivial, ?_⟩
              gi_at_call 96
              (with_reducible refine (CallsIn.inRound y (callsIn_wide.2 (cB.out _))).mono ?_)
              rintro e w7 ⟨rfl, hbw7⟩
              dsimp only
              have hSw7 : Below wr.heap.size wr w7 := hSw6.trans (hbw7.mono hSw6.size)
              refine ⟨by intros; exact hSw7, ?_⟩
              (try simp only [List.getElem_toArray, List.getElem_cons_zero, List.getElem_cons_succ, Act.put, List.setIfInBounds_toArray, List.set_cons_zero, List.set_cons_succ])
              refine wpTreeIn_do rfl (by rfl) ?_
              (try simp only [List.getElem_toArray, List.getElem_cons_zero, List.getElem_cons_succ])
              go_simp
              refine ⟨trivial, ?_⟩
              gi_at_call 95
              (with_reducible refine (CallsIn.inRound y (callsIn_wide.2 (cD.out _))).mono ?_)
              rintro e w8 ⟨rfl, hbw8⟩
              dsimp only
              have hSw8 : Below wr.heap.size wr w8 := hSw7.trans (hbw8.mono hSw7.size)
              refine ⟨by intros; exact hSw8, ?_⟩
              (try simp only [List.getElem_toArray, List.getElem_cons_zero, List.getElem_cons_succ, Act.put, List.setIfInBounds_toArray, List.set_cons_zero, List.set_cons_succ])
              refine wpTreeIn_pure (v := ?_) rfl (by rfl) ?_ (fun _ => by rfl) (fun _ _ _ h => h) ?_
              rotate_left
              focus (intro w'; (try simp only [List.getElem_toArray, List.getElem_cons_zero, List.getElem_cons_succ]); go_simp; try with_reducible rfl)
              (try simp only [List.getElem_toArray, List.getElem_cons_zero, List.getElem_cons_succ, Act.put, List.setIfInBounds_toArray, List.set_cons_zero, List.set_cons_succ])
              refine wpTreeIn_pure (v := ?_) rfl (by rfl) ?_ (fun _ => by rfl) (fun _ _ _ h => h) ?_
              rotate_left
              focus (intro w'; (try simp only [List.getElem_toArray, List.getElem_cons_zero, List.getElem_cons_succ]); go_simp; try with_reducible rfl)
              (try simp only [List.getElem_toArray, List.getElem_cons_zero, List.getElem_cons_succ, Act.put, List.setIfInBounds_toArray, List.set_cons_zero, List.set_cons_succ])
              (try unfold wpTreeIn)
              obtain ⟨k1, k2, k3, k4⟩ := finr.out _ hSw8
              obtain ⟨x0, x1, x2, x3⟩ := cells4 k4
              obtain ⟨y0, y1, y2, y3⟩ := cells4 k3.c4
              have f0 := frozen_row k3.c4 0
              have f1 := frozen_row k3.c4 1
              have f2 := frozen_row k3.c4 2
              have f3 := frozen_row k3.c4 3
              gi_wp2
              refine ⟨by first | exact k1.trans ((set4_keeps (b := w.heap.size + 1 + 1 + 1) s).from _) | (rw [← hVs]; exact k1.trans ((set4_keeps (b := w.heap.size + 1 + 1 + 1) s).from _)), KpS_t k2 ⟨set4_below s (Below.refl _ _) (by omega), set4_other s (by omega)⟩, ?_, ?_⟩
              · rw [hgs.out, hts]
                rw [decide_eq_true hc.out, decide_eq_false (show ¬ dv < 0 by omega)]; rfl
              · rw [hls.out, ← hu1.out]
                exact k3.last s (by omega) (by omega)
          · have hS0 : Below wr.heap.size wr wr.drew := (Below.refl _ _).drew
            have cF : Hid (∀ W, Calls Tryd.prog 94 #[.int .i64 sv] W fun e w' => e = .returned (.bool false) ∧ W = w') := fun W => by have h := flat_any sv W; rwa [show (sv == 0) = false from beq_eq_false_iff_ne.2 (fun e => hc (hz.1 e))] at h
            refine wpIn_region_tree (fun W' => Below wr.heap.size wr W') (.read 0 (.read 2 (.one 1 (.one 3 (.one 4 (.one 5 (.one 6 (.pure 7 (.read 8 (.read 10 (.one 9 (.one 11 (.one 12 (.pure 13 (.pure 14 .done))))))))))))))) [] (by kernel_rfl) (by kernel_rfl) (by kernel_rfl) ((Below.refl _ _).drew) ?_
            refine wpTreeIn_take (v := ?_) rfl (by rfl) ?_ (fun _ => by rfl) (fun _ _ _ h => h) ?_
            rotate_left
            focus (intro w' hSw; obtain ⟨⟨y0, y1, y2, y3⟩, x0, x1, x2, x3⟩ := hcl.out _ hSw; clear hSw; (try simp only [List.getElem_toArray, List.getElem_cons_zero, List.getElem_cons_succ]); go_simp; try with_reducible rfl)
            (try simp only [List.getElem_toArray, List.getElem_cons_zero, List.getElem_cons_succ, Act.put, List.setIfInBounds_toArray, List.set_cons_zero, List.set_cons_succ])
            refine wpTreeIn_take (v := ?_) rfl (by rfl) ?_ (fun _ => by rfl) (fun _ _ _ h => h) ?_
            rotate_left
            focus (intro w' hSw; obtain ⟨⟨y0, y1, y2, y3⟩, x0, x1, x2, x3⟩ := hcl.out _ hSw; clear hSw; (try simp only [List.getElem_toArray, List.getElem_cons_zero, List.getElem_cons_succ]); go_simp; try with_reducible rfl)
            (try simp only [List.getElem_toArray, List.getElem_cons_zero, List.getElem_cons_succ, Act.put, List.setIfInBounds_toArray, List.set_cons_zero, List.set_cons_succ])
            refine wpTreeIn_do rfl (by rfl) ?_
            (try simp only [List.getElem_toArray, List.getElem_cons_zero, List.getElem_cons_succ])
            go_simp
            refine ⟨trivial, ?_⟩
            gi_at_call 96
            (with_reducible refine (CallsIn.inRound y (callsIn_wide.2 (cA.out _))).mono ?_)
            rintro e w1 ⟨rfl, hbw1⟩
            dsimp only
            have hSw1 : Below wr.heap.size wr w1 := hS0.trans (hbw1.mono hS0.size)
            refine ⟨by intros; exact hSw1, ?_⟩
            (try simp only [List.getElem_toArray, List.getElem_cons_zero, List.getElem_cons_succ, Act.put, List.setIfInBounds_toArray, List.set_cons_zero, List.set_cons_succ])
            refine wpTreeIn_do rfl (by rfl) ?_
            (try simp only [List.getElem_toArray, List.getElem_cons_zero, List.getElem_cons_succ])
            go_simp
            refine ⟨trivial, ?_⟩
            gi_at_call 96
            (with_reducible refine (CallsIn.inRound y (callsIn_wide.2 (cB.out _))).mono ?_)
            rintro e w2 ⟨rfl, hbw2⟩
            dsimp only
            have hSw2 : Below wr.heap.size wr w2 := hSw1.trans (hbw2.mono hSw1.size)
            refine ⟨by intros; exact hSw2, ?_⟩
            (try simp only [List.getElem_toArray, List.getElem_cons_zero, List.getElem_cons_succ, Act.put, List.setIfInBounds_toArray, List.set_cons_zero, List.set_cons_succ])
            refine wpTreeIn_do rfl (by rfl) ?_
            (try simp only [List.getElem_toArray, List.getElem_cons_zero, List.getElem_cons_succ])
            go_simp
            refine ⟨trivial, ?_⟩
            gi_at_call 69
            (with_reducible refine (CallsIn.inRound y (callsIn_wide.2 (cC.out _))).mono ?_)
            rintro e w3 ⟨rfl, hbw3⟩
            dsimp only
            have hSw3 : Below wr.heap.size wr w3 := hSw2.trans (hbw3.mono hSw2.size)
            refine ⟨by intros; exact hSw3, ?_⟩
            (try simp only [List.getElem_toArray, List.getElem_cons_zero, List.getElem_cons_succ, Act.put, List.setIfInBounds_toArray, List.set_cons_zero, List.set_cons_succ])
            refine wpTreeIn_do rfl (by rfl) ?_
            (try simp only [List.getElem_toArray, List.getElem_cons_zero, List.getElem_cons_succ])
            go_simp
            refine ⟨trivial, ?_⟩
            gi_at_call 108
            (with_reducible refine (CallsIn.inRound y (callsIn_wide.2 (cE.out _))).mono ?_)
            rintro e w4 ⟨rfl, rfl⟩
            dsimp only
            refine ⟨by intros; assumption, ?_⟩
            (try simp only [List.getElem_toArray, List.getElem_cons_zero, List.getElem_cons_succ, Act.put, List.setIfInBounds_toArray, List.set_cons_zero, List.set_cons_succ])
            refine wpTreeIn_do rfl (by rfl) ?_
            (try simp only [List.getElem_toArray, List.getElem_cons_zero, List.getElem_cons_succ])
            go_simp
            refine ⟨trivial, ?_⟩
            gi_at_call 94
            (with_reducible refine (CallsIn.inRound y (callsIn_wide.2 (cF.out _))).mono ?_)
            rintro e w5 ⟨rfl, rfl⟩
            dsimp only
            refine ⟨by intros; assumption, ?_⟩
            (try simp only [List.getElem_toArray, List.getElem_cons_zero, List.getElem_cons_succ, Act.put, List.setIfInBounds_toArray, List.set_cons_zero, List.set_cons_succ])
            refine wpTreeIn_pure (v := ?_) rfl (by rfl) ?_ (fun _ => by rfl) (fun _ _ _ h => h) ?_
            rotate_left
            focus (intro w'; (try simp only [List.getElem_toArray, List.getElem_cons_zero, List.getElem_cons_succ]); go_simp; try with_reducible rfl)
            (try simp only [List.getElem_toArray, List.getElem_cons_zero, List.getElem_cons_succ, Act.put, List.setIfInBounds_toArray, List.set_cons_zero, List.set_cons_succ])
            refine wpTreeIn_barR rfl (by rfl) (fun _ => by rfl) (fun _ _ _ h => h) ?_
            (try simp only [List.getElem_toArray, List.getElem_cons_zero, List.getElem_cons_succ, Act.put, List.setIfInBounds_toArray, List.set_cons_zero, List.set_cons_succ])
            refine wpTreeIn_barR rfl (by rfl) (fun _ => by rfl) (fun _ _ _ h => h) ?_
            (try simp only [List.getElem_toArray, List.getElem_cons_zero, List.getElem_cons_succ, Act.put, List.setIfInBounds_toArray, List.set_cons_zero, List.set_cons_succ])
            refine wpTreeIn_bar1 rfl (by rfl) (fun _ _ => trivial) ?_
            (try simp only [List.getElem_toArray, List.getElem_cons_zero, List.getElem_cons_succ, Act.put, List.setIfInBounds_toArray, List.set_cons_zero, List.set_cons_succ])
            refine wpTreeIn_bar1 rfl (by rfl) (fun _ _ => trivial) ?_
            (try simp only [List.getElem_toArray, List.getElem_cons_zero, List.getElem_cons_succ, Act.put, List.setIfInBounds_toArray, List.set_cons_zero, List.set_cons_succ])
            refine wpTreeIn_bar1 rfl (by rfl) (fun _ _ => trivial) ?_
            (try simp only [List.getElem_toArray, List.getElem_cons_zero, List.getElem_cons_succ, Act.put, List.setIfInBounds_toArray, List.set_cons_zero, List.set_cons_succ])
            refine wpTreeIn_bar rfl (by rfl) (fun _ => by rfl) (fun _ _ _ h => h) ?_
            (try simp only [List.getElem_toArray, List.getElem_cons_zero, List.getElem_cons_succ, Act.put, List.setIfInBounds_toArray, List.set_cons_zero, List.set_cons_succ])
            refine wpTreeIn_pure (v := ?_) rfl (by rfl) ?_ (fun _ => by rfl) (fun _ _ _ h => h) ?_
            rotate_left
            focus (intro w'; (try simp only [List.getElem_toArray, List.getElem_cons_zero, List.getElem_cons_succ]); go_simp; try with_reducible rfl)
            (try simp only [List.getElem_toArray, List.getElem_cons_zero, List.getElem_cons_succ, Act.put, List.setIfInBounds_toArray, List.set_cons_zero, List.set_cons_succ])
            (try unfold wpTreeIn)
            obtain ⟨k1, k2, k3, k4⟩ := finr.out _ hSw3
            obtain ⟨x0, x1, x2, x3⟩ := cells4 k4
            obtain ⟨y0, y1, y2, y3⟩ := cells4 k3.c4
            have f0 := frozen_row k3.c4 0
            have f1 := frozen_row k3.c4 1
            have f2 := frozen_row k3.c4 2
            have f3 := frozen_row k3.c4 3
            gi_wp2
            refine ⟨by first | exact k1.trans ((set4_keeps (b := w.heap.size + 1 + 1 + 1) s).from _) | (rw [← hVs]; exact k1.trans ((set4_keeps (b := w.heap.size + 1 + 1 + 1) s).from _)), KpS_t k2 ⟨set4_below s (Below.refl _ _) (by omega), set4_other s (by omega)⟩, ?_, ?_⟩
            · rw [hgs.out, hts]
              rw [decide_eq_false hc]; rfl
            · rw [hls.out, ← hu1.out]
              exact k3.last s (by omega) (by omega)
    case done2 =>
      rintro D2 ys W hD2 rfl ⟨hg, hX⟩ hK2
      rw [sdOf_all] at hg hX
      have hres := Lib.hid (show convexB l = (sidesL l).any (upS l) by unfold convexB; rw [← hlz, hg, Bool.true_and])
      obtain ⟨u, hu⟩ : ∃ u, u = (sidesL l).any (upS l) := ⟨_, rfl⟩
      rw [← hu] at hX hres
      have y2 := hX.c3.cell
      have z2 := hX.c2.cell
      have f2 := hX.c2.frozen
      gi_wp2
      have hK3 := (KeepsOthers.setCell W ⟨w.heap.size + 1, 0, none⟩ (.bool u)).same D2 _ hK2 rfl
      have hKD := (KeepsOthers.setCell W ⟨w.heap.size + 1, 0, none⟩ (.bool u)).same D _ hX.cD rfl
      have n1 : D2 ≠ D := by omega
      rw [← hu]
      refine ⟨by simp, .inl ⟨_, _, rfl, run_takeDeferred hK3, ?_⟩⟩
      refine ⟨by simp, .inl ⟨_, _, rfl, run_takeDeferred ((put_other n1.symm _).trans hKD), ?_⟩⟩
      have hc5 := cell_kept (hX.c2.set (.bool u)).cell (grownBy_putObj' _ D2 (.deferred none)) (fun r e => by cases e; exact ⟨_, hK3, rfl⟩)
      have hc6 := cell_kept hc5 (grownBy_putObj' _ D (.deferred none)) (fun r e => by cases e; exact ⟨_, (put_other n1.symm _).trans hKD, rfl⟩)
      refine ⟨.bool u, ?_, by rw [hres.out], ((hX.bl.setCell (p := ⟨w.heap.size + 1, 0, none⟩) (by simp) _).trans (belowK_b (w := w) (Nat.le_refl _) _ D2 _ _ (by omega) hK3 rfl rfl)).trans (belowK_b (w := w) (Nat.le_refl _) _ D _ _ (by omega) ((put_other n1.symm _).trans hKD) rfl rfl)⟩
      simp [results, Tryd.f83, go_sem, hc6]
    case stop2 =>
      rintro D2 c' pre W hD2 ⟨k, _, rfl⟩ ⟨⟨rfl, hg⟩, la, u, hX⟩ hK2
      rw [hlz] at hg
      have hres := Lib.hid (convex_bad hg)
      gi_wp2
      have n1 : D2 ≠ D := by omega
      refine ⟨by simp, .inl ⟨_, _, rfl, run_takeDeferred hK2, ?_⟩⟩
      refine ⟨by simp, .inl ⟨_, _, rfl, run_takeDeferred ((put_other n1.symm _).trans hX.cD), ?_⟩⟩
      have hc5 := cell_kept hX.c2.cell (grownBy_putObj' _ D2 (.deferred none)) (fun r e => by cases e; exact ⟨_, hK2, rfl⟩)
      have hc6 := cell_kept hc5 (grownBy_putObj' _ D (.deferred none)) (fun r e => by cases e; exact ⟨_, (put_other n1.symm _).trans hX.cD, rfl⟩)
      refine ⟨.bool false, ?_, by rw [hres.out], (hX.bl.trans (belowK_b (w := w) (Nat.le_refl _) _ D2 _ _ (by omega) hK2 rfl rfl)).trans (belowK_b (w := w) (Nat.le_refl _) _ D _ _ (by omega) ((put_other n1.symm _).trans hX.cD) rfl rfl)⟩
      simp [results, Tryd.f83, go_sem, hc6]
  case stop =>
    rintro D c' pre W _ _ h _
    exact h.elim
end Go.Proofs.YthojfhdenfhjfaaDoor
end
section
namespace Go.Proofs.YthojfhdenfhjfaaDoor
open Go Go.RowKit

/-- Each deferred call is the mark of a loop's own block, at n or beyond, that has nothing to call; no two of one block. -/
def Marks (n : Nat) (W : World) : List Deferred → Prop
  | [] => True
  | d :: ds => (∃ r, n ≤ r ∧ d.target = .collected r ∧ W.heap[r]? = some (.deferred (some [])) ∧ ∀ e ∈ ds, e.target ≠ .collected r) ∧ Marks n W ds
theorem Marks.keep {n : Nat} {W W' : World} (hk : ∀ (k : Nat) (o : Obj), W.heap[k]? = some o → o.isCells = false → W'.heap[k]? = some o) : ∀ {ds : List Deferred}, Marks n W ds → Marks n W' ds
  | [], _ => trivial
  | _ :: _, ⟨⟨r, h1, h2, h3, h4⟩, h5⟩ => ⟨⟨r, h1, h2, hk _ _ h3 rfl, h4⟩, Marks.keep hk h5⟩
theorem Marks.below {n : Nat} {W W' : World} {ds : List Deferred} (h : Marks n W ds) (hb : Below W.heap.size W W') : Marks n W' ds :=
  h.keep fun k o hk _ => (hb.block k (Array.getElem?_eq_some_iff.1 hk).1).trans hk
theorem Marks.lt {n : Nat} {W : World} {D : Nat} : ∀ {ds : List Deferred}, Marks n W ds → ∀ e ∈ ds, e.target = .collected D → D < W.heap.size
  | [], _, _, he, _ => by cases he
  | d :: ds, ⟨⟨r, _, h2, h3, _⟩, h5⟩, e, he, ht => by
    rcases List.mem_cons.1 he with rfl | he
    · rw [h2] at ht
      cases ht
      exact (Array.getElem?_eq_some_iff.1 h3).1
    · exact h5.lt e he ht
theorem Marks.shut {n r : Nat} {W : World} (o : Obj) : ∀ {ds : List Deferred}, Marks n W ds → (∀ e ∈ ds, e.target ≠ .collected r) → Marks n (W.putObj r o) ds
  | [], _, _ => trivial
  | d :: ds, ⟨⟨r', h1, h2, h3, h4⟩, h5⟩, hn => ⟨⟨r', h1, h2, (World.putObj_heap_other (fun e => hn d (List.mem_cons_self ..) (by rw [h2, e]))).trans h3, h4⟩, Marks.shut o h5 (fun e he => hn e (List.mem_cons_of_mem _ he))⟩
/-- One mark more: its block is laid behind the others. -/
theorem Marks.more {n D : Nat} {W W' : World} {ds : List Deferred} {args : Array Value} (h : Marks n W ds) (hb : Below W.heap.size W W') (hD : W.heap.size ≤ D) (hn : n ≤ W.heap.size) (hK : W'.heap[D]? = some (.deferred (some []))) :
    Marks n W' ({ target := .collected D, args := args } :: ds) :=
  ⟨⟨D, Nat.le_trans hn hD, rfl, hK, fun e he ht => absurd (h.lt e he ht) (by omega)⟩, h.below hb⟩
theorem leaves_marks {F : Fence} {m : Nat} {P : Program} {fn : Func} {tmps : Array Value} {R : Ending → World → Prop} {n : Nat} : ∀ (ds : List Deferred) (W : World), Marks n W ds →
    (∀ W', Below n W W' → (∀ (k : Nat) (o : Obj), W.heap[k]? = some o → o.isCells = true → W'.heap[k]? = some o) → LeavesIn F m P fn tmps R [] .returning W') → LeavesInM F m P fn tmps R ds .returning W
  | [], W, _, h => h W (Below.refl _ _) (fun _ _ h _ => h)
  | d :: ds, W, ⟨⟨r, hr, ht, hb, hno⟩, hm⟩, h => by
    have hlt := (Array.getElem?_eq_some_iff.1 hb).1
    refine ⟨by simp, .inl ⟨r, _, ht, run_takeDeferred hb, leaves_marks ds _ (hm.shut _ hno) fun W' hb' hc' => h W' (Below.trans ?_ hb') (fun k o hk ho => hc' k o ?_ ho)⟩⟩
    · exact (Below.refl n W).grown (grownBy_putObj' W r _) (by omega) (fun k e => by cases e; omega)
    · refine (World.putObj_heap_other (fun e => ?_)).trans hk
      subst e
      rw [hb] at hk
      cases hk
      cases ho
end Go.Proofs.YthojfhdenfhjfaaDoor
end
section
namespace Go.Proofs.YthojfhdenfhjfaaDoor
open Go.RowKit

/-- Where a round's body goes on. -/
def Goes (R : World → Prop) : Exit → Act → World → Prop
  | .normal, _, W' => R W'
  | _, _, _ => False

theorem range_low {F : Fence} {n : Nat} {P : Program} {α : Type} {g : Operand} {ps : Array Tmp} {assign body : Code} {Q : Exit → Act → World → Prop} {a : Act} {w : World}
    (hro : F.round = none) (h1 : 1 ≤ n) {gf : Nat} {lb : Array Value} (hg : a.eval g = .func (.func gf) #[] lb) (hFg : F.fn gf) (eg : ∀ args w, (callFunc gf args).run P w = .ok (.enter gf args) w)
    {encs : α → Array Value} {Kp : World → World → Prop} {S : List α → Prop} (I : List α → World → Prop) (N : Nat)
    (hseq : ∀ (l : Nat) (J : List α → World → Prop) (W : World), Below w.heap.size w W → w.heap.size + 2 ≤ W.heap.size → (∀ s A B, J s A → Below (w.heap.size + 2) A B → (∀ (k : Nat) (o : Obj), A.heap[k]? = some o → o.isCells = true → B.heap[k]? = some o) → J s B) → (∀ s A, J s A → I s A) →
      (∀ pre x W1, J pre W1 → pre.length < N → YieldAt F (n - 1 - 1) P l (encs x) W1 fun e W' => e = .returned (.bool true) ∧ J (pre ++ [x]) W' ∧ Kp W1 W') → J [] W →
      CallsIn F (n - 1) P gf (#[.func (.yield l) #[] #[]] ++ lb) W fun e W' => (∃ v, e = .returned v) ∧ ∃ xs, S xs ∧ J xs W')
    (hKt : ∀ {A B C : World}, Kp A B → Kp B C → Kp A C) (hKb : ∀ (W : World) (l : Nat) (o o' : Obj), w.heap.size ≤ l → l < w.heap.size + 2 → W.heap[l]? = some o → o.isCells = false → Kp W (W.putObj l o')) (hps : ∀ x, (encs x).size = ps.size)
    (hI : OwnFrom w.heap.size I) (hIS : ∀ s A B, I s A → Below (w.heap.size + 2) A B → (∀ (k : Nat) (o : Obj), A.heap[k]? = some o → o.isCells = true → B.heap[k]? = some o) → I s B) (h0 : I [] w) (Ix : List α → α → Act → World → Prop) (hIx : ∀ x a', OwnFrom w.heap.size (fun pre W => Ix pre x a' W))
    (hassign : ∀ (l : Nat) (pre : List α) (x : α) (W : World) (K : Act → World → Prop), w.heap.size + 2 ≤ W.heap.size → I pre W → (∀ a' W', KeepsFrom w.heap.size W W' → Kp W W' → Ix pre x a' W' → K a' W') →
      assign.wpIn (F.inRound l) (n - 1 - 1) P (Exit.then K (fun _ _ _ => False)) { tmps := (ps.zip (encs x)).foldl (fun t (p, v) => t.setIfInBounds p v) a.tmps, defers := [] } W)
    (hbody : ∀ (l : Nat) (pre : List α) (x : α) (a' : Act) (W : World), Ix pre x a' W → pre.length < N → body.wpIn (F.inRound l) (n - 1 - 1) P (Goes fun W' => KeepsFrom w.heap.size W W' ∧ Kp W W' ∧ I (pre ++ [x]) W') a' W)
    (hdone : ∀ (D : Nat) (xs : List α) (W : World), w.heap.size ≤ D → S xs → I xs W → W.heap[D]? = some (.deferred (some [])) → Q .normal { a with defers := { target := .collected D, args := #[] } :: a.defers } W) :
    (Code.rangeFunc g ps assign body).wpIn F n P Q a w := by
  refine wpIn_rangeFunc ?_
  intro fn hfn
  rw [hro]
  obtain ⟨rec, hrec⟩ : ∃ rec : LoopState → Loop, rec = fun st => { state := st, pending := none, fn, tmps := a.tmps, params := ps, assign, body, defers := w.heap.size } := ⟨_, rfl⟩
  obtain ⟨W1, hW1⟩ : ∃ W1, (w.alloc (.deferred (some []))).alloc (.loop (rec .ready)) = W1 := ⟨_, rfl⟩
  have hL1 : W1.heap[w.heap.size + 1]? = some (.loop (rec .ready)) := by
    rw [← hW1]; have := World.alloc_heap_new (w.alloc (.deferred (some []))) (.loop (rec .ready)); rwa [World.size_alloc] at this
  have hK1 : W1.heap[w.heap.size]? = some (.deferred (some [])) := by
    rw [← hW1]; exact (Below.heap_alloc _ _ _ (by simp)).trans (World.alloc_heap_new w _)
  have hI1 : I [] W1 := by rw [← hW1]; exact hI.alloc _ (hI.alloc _ h0)
  have hb1 : Below w.heap.size w W1 := by rw [← hW1]; exact ((Below.refl _ w).alloc (Nat.le_refl _) _).alloc (by simp) _
  refine ⟨w.heap.size + 1, [{ target := .collected w.heap.size, args := #[] }], W1, { target := .fn (.func gf) lb, args := #[.func (.yield (w.heap.size + 1)) #[] #[]] }, W1, gf,
    #[.func (.yield (w.heap.size + 1)) #[] #[]] ++ lb, W1, ?_, ?_, ?_, ?_, fun _ => h1, ?_⟩
  · rw [← hW1, hrec]; exact run_enterLoop_outer _ _ _ _ _
  · simp only [resolve, hg]
    simp [go_sem]
  · intro f' hf'; simp [Target.leads] at hf'; subst hf'; exact hFg
  · simp [invoke, go_sem, eg]
  · refine (hseq (w.heap.size + 1) (fun pre W => I pre W ∧ W.heap[w.heap.size + 1]? = some (.loop (rec .ready)) ∧ W.heap[w.heap.size]? = some (.deferred (some []))) W1 hb1 (by rw [← hW1]; simp)
      (fun s A B hs hst hck => ⟨hIS s A B hs.1 hst hck, (hst.block _ (by omega)).trans hs.2.1, (hst.block _ (by omega)).trans hs.2.2⟩) (fun s A hs => hs.1) ?_ ⟨hI1, hL1, hK1⟩).mono ?_
    · rintro pre x W ⟨hi, hl, hk⟩ hlen
      have hy := run_yield (P := P) (args := encs x) hl (by rw [hrec]; exact hps x)
      rw [hrec] at hy
      refine ⟨fn, _, assign, body, hy, roundIn_of_wpIn hfn (hassign _ pre x W _ (by have := (Array.getElem?_eq_some_iff.1 hl).1; omega) hi ?_)⟩
      clear hy
      intro a' Wa hka hkpa hia
      have hla := hka.same _ _ (by omega) hl rfl
      have hda := hka.same _ _ (Nat.le_refl _) hk rfl
      have hlt : w.heap.size + 1 < Wa.heap.size := (Array.getElem?_eq_some_iff.1 hla).1
      refine ⟨_, run_beginRound hla (by rw [hrec]), ?_⟩
      have hl2 : (Wa.putObj (w.heap.size + 1) (.loop { rec .ready with state := .busy })).heap[w.heap.size + 1]? = some (.loop { rec .ready with state := .busy }) := World.putObj_heap_same hlt
      have hk2 : (Wa.putObj (w.heap.size + 1) (.loop { rec .ready with state := .busy })).heap[w.heap.size]? = some (.deferred (some [])) := (World.putObj_heap_other (by omega)).trans hda
      have hw2 : Kp Wa (Wa.putObj (w.heap.size + 1) (.loop { rec .ready with state := .busy })) := hKb _ _ _ _ (by omega) (by omega) hla rfl
      refine wpIn_mono (hbody _ pre x a' _ ((hIx x a').putObj _ hia (by omega) hla rfl) hlen) ?_
      rintro e a3 W3 hp
      cases e with
      | normal =>
        obtain ⟨hk3, hkp3, hi3⟩ := hp
        have hl3 := hk3.same _ _ (by omega) hl2 rfl
        have hr := run_endRound (P := P) none hl3
        refine ⟨_, _, hr, rfl, ⟨hI.putObj _ hi3 (by omega) hl3 rfl, ?_, (World.putObj_heap_other (by omega)).trans (hk3.same _ _ (Nat.le_refl _) hk2 rfl)⟩, hKt hkpa (hKt (hKt hw2 hkp3) (hKb _ _ _ _ (by omega) (by omega) hl3 rfl))⟩
        rw [World.putObj_heap_same (Array.getElem?_eq_some_iff.1 hl3).1, hrec]
        rfl
      | ret => exact hp.elim
      | exit id => exact hp.elim
      | goto t => exact hp.elim
      | panic ch => exact hp.elim
      | outgrown => exact hp.elim
    · rintro e W2 ⟨⟨v, rfl⟩, xs, hS, hi, hl, hk⟩
      exact ⟨none, _, by have := run_endLoop (P := P) hl (by rw [hrec]; simp); rw [hrec] at this; exact this, hdone _ xs _ (Nat.le_refl _) hS (hI.putObj _ hi (by omega) hl rfl) ((World.putObj_heap_other (by omega)).trans hk)⟩
end Go.Proofs.YthojfhdenfhjfaaDoor
end
