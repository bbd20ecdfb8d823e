/-
  The edge of the face beside an edge: other: walked. PRINTED by genR20.py. The kind of an edge: kind: walked. PRINTED by genR21.py. The edges of all faces as an iterator: (*house).edges and the function that it hands back: walked. PRINTED by genR22.py. The rows of edges that a house's map holds while it is built; and two operations inside a fence: append, and a store into a map. No walk. built: the house of a roof: walked. PRINTED by genR24.py.
-/
import Derived.Test.YthojfhdenfhjfaaDoorRa03
import Derived.Test.YthojfhdenfhjfaaDoorRa07
import Derived.Test.YthojfhdenfhjfaaDoorRa11
set_option linter.all false
set_option linter.unusedVariables false
set_option linter.unusedSimpArgs false
section
namespace Go.Proofs.YthojfhdenfhjfaaDoor
open Go.RowKit Go.Lib Go.Shelf

def set6 (W : World) (b : Nat) (e : Edg) : World := (((((W.setCell ⟨b, 0, none⟩ (.int .i64 e.face)).setCell ⟨b, 1, none⟩ (.int .i64 e.number)).setCell ⟨b, 2, none⟩ (.int .i64 e.s.a.x)).setCell ⟨b, 3, none⟩ (.int .i64 e.s.a.y)).setCell ⟨b, 4, none⟩ (.int .i64 e.s.b.x)).setCell ⟨b, 5, none⟩ (.int .i64 e.s.b.y)
theorem set6_row {W : World} {b : Nat} {la : Edg} (e : Edg) (h : W.heap[b]? = some (.cells (edgCells la) 129 (0, 0))) : (set6 W b e).heap[b]? = some (.cells (edgCells e) 129 (0, 0)) :=
  set_cells (set_cells (set_cells (set_cells (set_cells (set_cells h _) _) _) _) _) _
theorem set6_below {W0 W : World} {n b : Nat} (e : Edg) (h : Below n W0 W) (hb : n ≤ b) : Below n W0 (set6 W b e) := (((((h.setCell (p := ⟨b, 0, none⟩) hb _).setCell (p := ⟨b, 1, none⟩) hb _).setCell (p := ⟨b, 2, none⟩) hb _).setCell (p := ⟨b, 3, none⟩) hb _).setCell (p := ⟨b, 4, none⟩) hb _).setCell (p := ⟨b, 5, none⟩) hb _
abbrev noEdg : Edg := ⟨0, 0, ⟨⟨0, 0⟩, ⟨0, 0⟩⟩⟩
theorem find_at {l : List Edg} {P : Edg → Bool} {k : Nat} (hk : k < l.length) (h : ∀ j, j < k → P (l.getD j default) = false) (h1 : P (l.getD k default) = true) : l.find? P = some (l.getD k default) := by
  induction l generalizing k with
  | nil => simp at hk
  | cons x l ih =>
    cases k with
    | zero => simp at h1; simp [List.find?_cons, h1]
    | succ k =>
      have h0 := h 0 (by omega)
      simp at h0
      rw [List.find?_cons, h0]
      have := ih (k := k) (by simpa using hk) (fun j hj => by have := h (j + 1) (by omega); simpa using this) (by simpa using h1)
      simpa using this
theorem find_no {l : List Edg} {P : Edg → Bool} (h : ∀ j, j < l.length → P (l.getD j default) = false) : l.find? P = none :=
  List.find?_eq_none.2 fun x hx => by obtain ⟨k, hk, e⟩ := nth_of hx; rw [← e, h k hk]; decide
set_option maxHeartbeats 2000000 in
set_option maxRecDepth 100000 in
theorem other_any (hb mb : Nat) (fs : List Face) (fa : Option Addr) (fc : Nat) (v1 : Value) (e : Edg) (w : World) (hH : HsX w hb mb fs fa fc v1) (hM : BesX w mb (edgesL fs)) (ha : SmP e.s.a 1000000) (hbp : SmP e.s.b 1000000) (hlen : (edgesL fs).length ≤ 100000) :
    Calls Tryd.prog 71 #[.pointer (some ⟨hb, 0, none⟩), edgVal e] w fun e' w' => e' = .returned (.tuple #[edgVal ((otherE fs e).getD noEdg), .bool (otherE fs e).isSome]) ∧ Below w.heap.size w w' := by
  obtain ⟨W0, hW0⟩ : ∃ W0, W0 = (w.alloc (.cells (edgCells e) 129)).alloc (.cells (edgCells noEdg) 129) := ⟨_, rfl⟩
  have hb0 : Below w.heap.size w W0 := by rw [hW0]; exact ((Below.refl _ w).alloc (Nat.le_refl _) _).alloc (by simp) _
  have hs0 : Hid (W0.heap.size = w.heap.size + 2) := by unfold Hid; rw [hW0]; simp
  have hH0 := hH.later hb0
  have hM0 := hM.later hb0
  have hpb : W0.heap[w.heap.size]? = some (.cells (edgCells e) 129 (0, 0)) := by rw [hW0]; exact heap_old _ _ _ _ (heap_new _ _ _ rfl)
  have hqb : W0.heap[w.heap.size + 1]? = some (.cells (edgCells noEdg) 129 (0, 0)) := by rw [hW0]; exact heap_new _ _ _ (by simp)
  have hes : SmP (endsS e.s).a 1000000 ∧ SmP (endsS e.s).b 1000000 := by unfold endsS; split; exact ⟨hbp, ha⟩; exact ⟨ha, hbp⟩
  obtain ⟨nm, m, hmi, hme⟩ := hM0
  obtain ⟨A, c, hv, hrow⟩ := hme (endsS e.s) hes.1 hes.2
  obtain ⟨kl, hkl⟩ := side_key (endsS e.s) hes.1 hes.2
  have hO : otherE fs e = (atEnds (edgesL fs) (endsS e.s)).find? fun x => decide (x.face ≠ e.face) := other_at fs e
  have hRl : (atEnds (edgesL fs) (endsS e.s)).length ≤ 100000 := Nat.le_trans (List.length_filter_le _ _) hlen
  obtain ⟨es, hes2⟩ : ∃ s, s = endsS e.s := ⟨_, rfl⟩
  rw [← hes2] at hv hkl
  obtain ⟨R, hR⟩ : ∃ R, R = atEnds (edgesL fs) (endsS e.s) := ⟨_, rfl⟩
  rw [← hes2] at hR hrow hO hRl
  rw [← hR] at hv hrow hO hRl
  have c47 : Hid (∀ V, Calls Tryd.prog 47 #[.agg (sdCells e.s)] V fun e' w' => e' = .returned (.agg (sdCells es)) ∧ Below V.heap.size V w') := fun V => by rw [hes2]; exact ends_any e.s V
  have hlk : Hid (∀ V, Below W0.heap.size W0 V → (Instr.lookup 154 (.map (some mb)) (.agg (sdCells es)) false).run Tryd.prog V = .ok (.slice A R.length c) V) := fun V h => by
    have := (hmi.below h hmi.lt).lookup side_keyed Tryd.underlying154 (Tryd.zeroValue157 V) hkl false
    rw [hv] at this
    simpa using this
  have hcl : Hid (∀ V, Below W0.heap.size W0 V → (V.cell? ⟨w.heap.size, 0, none⟩ = some (.int .i64 e.face) ∧ V.cell? ⟨w.heap.size, 1, none⟩ = some (.int .i64 e.number) ∧ V.cell? ⟨w.heap.size, 2, none⟩ = some (.int .i64 e.s.a.x) ∧ V.cell? ⟨w.heap.size, 3, none⟩ = some (.int .i64 e.s.a.y) ∧ V.cell? ⟨w.heap.size, 4, none⟩ = some (.int .i64 e.s.b.x) ∧ V.cell? ⟨w.heap.size, 5, none⟩ = some (.int .i64 e.s.b.y))) := fun V h => cells6 ((h.block _ (lt_block hpb)).trans hpb)
  have hmp : Hid (∀ V, Below W0.heap.size W0 V → V.cell? ⟨hb, 2, none⟩ = some (.map (some mb))) := fun V h => (cells3 (hH0.later h).c).2.2
  have hqb' := Lib.hid hqb
  have hrow' := Lib.hid hrow
  have hb0' := Lib.hid hb0
  replace hO := Lib.hid hO
  clear hqb hrow hb0 hmi hme hpb hes hH0
  replace hes2 := Lib.hid hes2
  replace hR := Lib.hid hR
  replace hv := Lib.hid hv
  replace hkl := Lib.hid hkl
  go_enter Tryd.func71, Tryd.ntmps71
  go_upto_region 1 with fail
  rw [← hW0]
  replace hW0 := Lib.hid hW0
  have hSd : Below W0.heap.size W0 W0.drew := (Below.refl _ _).drew
  refine wp_region_tree (fun V => Below W0.heap.size W0 V) (.pure 0 (.pure 1 (.pure 2 (.read 3 (.pure 4 (.read 5 (.pure 9 (.one 6 (.read 7 (.pure 8 .done)))))))))) [] (by kernel_rfl) (by kernel_rfl) hSd ?_
  refine wpTree_pure (v := ?_) rfl (by rfl) ?_ (fun _ _ _ h => h) ?_
  rotate_left
  focus (intro w'; (try simp only [List.getElem_toArray, List.getElem_cons_zero, List.getElem_cons_succ]); go_simp; try with_reducible rfl)
  (try simp only [List.getElem_toArray, List.getElem_cons_zero, List.getElem_cons_succ, Act.put, List.setIfInBounds_toArray, List.set_cons_zero, List.set_cons_succ])
  refine wpTree_pure (v := ?_) rfl (by rfl) ?_ (fun _ _ _ h => h) ?_
  rotate_left
  focus (intro w'; (try simp only [List.getElem_toArray, List.getElem_cons_zero, List.getElem_cons_succ]); go_simp; try with_reducible rfl)
  (try simp only [List.getElem_toArray, List.getElem_cons_zero, List.getElem_cons_succ, Act.put, List.setIfInBounds_toArray, List.set_cons_zero, List.set_cons_succ])
  refine wpTree_pure (v := ?_) rfl (by rfl) ?_ (fun _ _ _ h => h) ?_
  rotate_left
  focus (intro w'; (try simp only [List.getElem_toArray, List.getElem_cons_zero, List.getElem_cons_succ]); go_simp; try with_reducible rfl)
  (try simp only [List.getElem_toArray, List.getElem_cons_zero, List.getElem_cons_succ, Act.put, List.setIfInBounds_toArray, List.set_cons_zero, List.set_cons_succ])
  refine wpTree_take (v := ?_) rfl (by rfl) ?_ (fun _ _ _ h => h) ?_
  rotate_left
  focus (intro w' hSw; obtain ⟨x0, x1, x2, x3, x4, x5⟩ := hcl.out _ hSw; have zm := hmp.out _ hSw; clear hSw; (try simp only [List.getElem_toArray, List.getElem_cons_zero, List.getElem_cons_succ]); go_simp; try with_reducible rfl)
  (try simp only [List.getElem_toArray, List.getElem_cons_zero, List.getElem_cons_succ, Act.put, List.setIfInBounds_toArray, List.set_cons_zero, List.set_cons_succ])
  refine wpTree_pure (v := ?_) rfl (by rfl) ?_ (fun _ _ _ h => h) ?_
  rotate_left
  focus (intro w'; (try simp only [List.getElem_toArray, List.getElem_cons_zero, List.getElem_cons_succ]); go_simp; try with_reducible rfl)
  (try simp only [List.getElem_toArray, List.getElem_cons_zero, List.getElem_cons_succ, Act.put, List.setIfInBounds_toArray, List.set_cons_zero, List.set_cons_succ])
  refine wpTree_take (v := ?_) rfl (by rfl) ?_ (fun _ _ _ h => h) ?_
  rotate_left
  focus (intro w' hSw; obtain ⟨x0, x1, x2, x3, x4, x5⟩ := hcl.out _ hSw; have zm := hmp.out _ hSw; clear hSw; (try simp only [List.getElem_toArray, List.getElem_cons_zero, List.getElem_cons_succ]); go_simp; try with_reducible rfl)
  (try simp only [List.getElem_toArray, List.getElem_cons_zero, List.getElem_cons_succ, Act.put, List.setIfInBounds_toArray, List.set_cons_zero, List.set_cons_succ])
  refine wpTree_pure (v := ?_) rfl (by rfl) ?_ (fun _ _ _ h => h) ?_
  rotate_left
  focus (intro w'; (try simp only [List.getElem_toArray, List.getElem_cons_zero, List.getElem_cons_succ]); go_simp; try with_reducible rfl)
  (try simp only [List.getElem_toArray, List.getElem_cons_zero, List.getElem_cons_succ, Act.put, List.setIfInBounds_toArray, List.set_cons_zero, List.set_cons_succ])
  refine wpTree_do rfl (by rfl) ?_
  (try simp only [List.getElem_toArray, List.getElem_cons_zero, List.getElem_cons_succ])
  go_simp
  go_at_call 47
  (with_reducible refine (c47.out _).mono ?_)
  rintro e2 wc ⟨rfl, hbc⟩
  have hSc := hSd.trans (hbc.mono hSd.size)
  refine ⟨by intros; first | exact hSc | simpa using hSc, ?_⟩
  (try simp only [List.getElem_toArray, List.getElem_cons_zero, List.getElem_cons_succ, Act.put, List.setIfInBounds_toArray, List.set_cons_zero, List.set_cons_succ])
  refine wpTree_take (v := .slice A R.length c) rfl (by rfl) ?_ (fun _ _ _ h => h) ?_
  focus (intro w' hSw; have hl := hlk.out _ hSw; clear hSw; (try simp only [List.getElem_toArray, List.getElem_cons_zero, List.getElem_cons_succ]); go_simp <;> (simp [execOp, hl, Result.andThen]))
  (try simp only [List.getElem_toArray, List.getElem_cons_zero, List.getElem_cons_succ, Act.put, List.setIfInBounds_toArray, List.set_cons_zero, List.set_cons_succ])
  refine wpTree_pure (v := ?_) rfl (by rfl) ?_ (fun _ _ _ h => h) ?_
  rotate_left
  focus (intro w'; (try simp only [List.getElem_toArray, List.getElem_cons_zero, List.getElem_cons_succ]); go_simp; try with_reducible rfl)
  (try simp only [List.getElem_toArray, List.getElem_cons_zero, List.getElem_cons_succ, Act.put, List.setIfInBounds_toArray, List.set_cons_zero, List.set_cons_succ])
  (try unfold wpTree)
  go_wp2
  have hAl : R.length = 0 ∨ ∃ ad, A = some ad := by
    rcases Nat.eq_zero_or_pos R.length with h | h
    · exact .inl h
    · obtain ⟨ad, e', _⟩ := flat6 hrow'.out h rfl
      exact .inr ⟨ad, e'⟩
  replace hAl := Lib.hid hAl
  obtain ⟨wc2, hwc2⟩ : ∃ x, x = wc := ⟨wc, rfl⟩
  go_loopw [17] (fun i wr => ∃ k : Nat, i = .int .i64 k ∧ k ≤ R.length ∧ Hid (∀ j, j < k → decide ((R.getD j default).face ≠ e.face) = false) ∧ Hid (Below W0.heap.size W0 wr)) (fun i _ => R.length - (intOf i).toNat)
  case atStart => exact ⟨0, rfl, Nat.zero_le _, fun j hj => absurd hj (Nat.not_lt_zero _), hSc⟩
  case round =>
    obtain ⟨k, rfl, hk, hno, hbw⟩ := hrel
    have lq : Hid (wr.heap[w.heap.size + 1]? = some (.cells (edgCells noEdg) 129 (0, 0))) := (hbw.out.block _ (lt_block hqb'.out)).trans hqb'.out
    by_cases hlt : k < R.length
    · obtain ⟨ad, hA, p0, p1, p2, p3, p4, p5⟩ := flat6 (hrow'.out.below hbw.out) hlt rfl
      obtain ⟨x, hx⟩ : ∃ x, x = R.getD k default := ⟨_, rfl⟩
      have ex : R[k] = x := by rw [hx]; simp [List.getD_eq_getElem?_getD, hlt]
      rw [ex] at p0 p1 p2 p3 p4 p5
      subst hA
      have hba : Hid (Below wr.heap.size wr (wr.alloc (.cells #[.int .i64 x.face, .int .i64 x.number, .int .i64 x.s.a.x, .int .i64 x.s.a.y, .int .i64 x.s.b.x, .int .i64 x.s.b.y] 129))) := (Below.refl _ wr).alloc (Nat.le_refl _) _
      have hbA : Hid (Below W0.heap.size W0 (wr.alloc (.cells #[.int .i64 x.face, .int .i64 x.number, .int .i64 x.s.a.x, .int .i64 x.s.a.y, .int .i64 x.s.b.x, .int .i64 x.s.b.y] 129))) := hbw.out.trans (hba.out.mono hbw.out.size)
      obtain ⟨y0, _⟩ := hcl.out _ hbA.out
      have lA : Hid ((wr.alloc (.cells #[.int .i64 x.face, .int .i64 x.number, .int .i64 x.s.a.x, .int .i64 x.s.a.y, .int .i64 x.s.b.x, .int .i64 x.s.b.y] 129)).heap[w.heap.size + 1]? = some (.cells (edgCells noEdg) 129 (0, 0))) := heap_old _ _ _ _ lq.out
      have lx : Hid ((wr.alloc (.cells #[.int .i64 x.face, .int .i64 x.number, .int .i64 x.s.a.x, .int .i64 x.s.a.y, .int .i64 x.s.b.x, .int .i64 x.s.b.y] 129)).heap[wr.heap.size]? = some (.cells (edgCells x) 129 (0, 0))) := heap_new _ _ _ rfl
      obtain ⟨x0, x1, x2, x3, x4, x5⟩ := cells6 lx.out
      obtain ⟨z0, z1, z2, z3, z4, z5⟩ := cells6 lA.out
      have f0 := frozen_row lA.out 0
      have f1 := frozen_row lA.out 1
      have f2 := frozen_row lA.out 2
      have f3 := frozen_row lA.out 3
      have f4 := frozen_row lA.out 4
      have f5 := frozen_row lA.out 5
      replace ex := Lib.hid ex
      by_cases hne : x.face = e.face
      · have hnx : Hid (∀ j, j < k + 1 → decide ((R.getD j default).face ≠ e.face) = false) := fun j hj => by
          rcases Nat.lt_or_ge j k with h1 | h1
          · exact hno.out j h1
          · obtain rfl : j = k := by omega
            rw [← hx]; simp [hne]
        have hne' : (x.face != e.face) = false := by simp [hne]
        have hwk : IntKind.i64.wrap ((k : Int) + 1) = (k : Int) + 1 := IntWalk.i64_in _ (by omega)
        replace hx := Lib.hid hx
        replace hne := Lib.hid hne
        go_wp2
        exact ⟨⟨k + 1, by go_num, by omega, hnx.out, hbA.out⟩, by simp only [intOf]; omega⟩
      · have hne' : (x.face != e.face) = true := by simp [hne]
        have hO2 : Hid (otherE fs e = some x) := by
          unfold Hid
          rw [hO.out, hx]
          exact find_at hlt hno.out (by rw [← hx]; simp [hne])
        have hrow2 := Lib.hid (set6_row x lA.out)
        have hbl2 := Lib.hid (set6_below x (hb0'.out.trans (hbA.out.mono hb0'.out.size)) (Nat.le_succ _))
        replace hx := Lib.hid hx
        replace hne := Lib.hid hne
        go_wp2
        obtain ⟨wz, hwz⟩ : ∃ z, z = set6 (wr.alloc (.cells #[.int .i64 x.face, .int .i64 x.number, .int .i64 x.s.a.x, .int .i64 x.s.a.y, .int .i64 x.s.b.x, .int .i64 x.s.b.y] 129)) (w.heap.size + 1) x := ⟨_, rfl⟩
        have hz := hrow2.out
        have hzb := hbl2.out
        show bodyPost _ _ _ _ _ (set6 (wr.alloc (.cells #[.int .i64 x.face, .int .i64 x.number, .int .i64 x.s.a.x, .int .i64 x.s.a.y, .int .i64 x.s.b.x, .int .i64 x.s.b.y] 129)) (w.heap.size + 1) x)
        rw [← hwz] at hz hzb ⊢
        obtain ⟨r0, r1, r2, r3, r4, r5⟩ := cells6 hz
        refine bodyPost_ret (v := .tuple #[edgVal x, .bool true]) (by simp [results, Tryd.results71, go_sem, r0, r1, r2, r3, r4, r5]) rfl ⟨by rw [hO2.out]; rfl, hzb⟩
    · obtain rfl : k = R.length := by omega
      have hO2 : Hid (otherE fs e = none) := by
        unfold Hid
        rw [hO.out]
        exact find_no hno.out
      have hrow2 := Lib.hid (set6_row noEdg lq.out)
      have hbl2 := Lib.hid (set6_below noEdg (hb0'.out.trans (hbw.out.mono hb0'.out.size)) (Nat.le_succ _))
      obtain ⟨z0, z1, z2, z3, z4, z5⟩ := cells6 lq.out
      have f0 := frozen_row lq.out 0
      have f1 := frozen_row lq.out 1
      have f2 := frozen_row lq.out 2
      have f3 := frozen_row lq.out 3
      have f4 := frozen_row lq.out 4
      have f5 := frozen_row lq.out 5
      go_wp2
      obtain ⟨wz, hwz⟩ : ∃ z, z = set6 (wr) (w.heap.size + 1) noEdg := ⟨_, rfl⟩
      have hz := hrow2.out
      have hzb := hbl2.out
      show bodyPost _ _ _ _ _ (set6 (wr) (w.heap.size + 1) noEdg)
      rw [← hwz] at hz hzb ⊢
      obtain ⟨r0, r1, r2, r3, r4, r5⟩ := cells6 hz
      refine bodyPost_ret (v := .tuple #[edgVal noEdg, .bool false]) (by simp [results, Tryd.results71, go_sem, r0, r1, r2, r3, r4, r5]) rfl ⟨by rw [hO2.out]; rfl, hzb⟩
end Go.Proofs.YthojfhdenfhjfaaDoor
end
section
namespace Go.Proofs.YthojfhdenfhjfaaDoor
open Go.RowKit Go.Lib Go.Shelf

/-- The house, its map, and the edge's box. -/
structure KdX (w : World) (hb mb : Nat) (fs : List Face) (fa : Option Addr) (fc : Nat) (v1 : Value) (e : Edg) (V : World) : Prop where
  b : Below w.heap.size w V
  c : V.heap[w.heap.size]? = some (.cells (edgCells e) 129 (0, 0))
  hs : HsX V hb mb fs fa fc v1
  bs : BesX V mb (edgesL fs)
theorem KdX.later {w V V' : World} {hb mb : Nat} {fs : List Face} {fa : Option Addr} {fc : Nat} {v1 : Value} {e : Edg} (h : KdX w hb mb fs fa fc v1 e V) (hb' : Below V.heap.size V V') : KdX w hb mb fs fa fc v1 e V' :=
  ⟨h.b.trans (hb'.mono h.b.size), (hb'.block _ (lt_block h.c)).trans h.c, h.hs.later hb', h.bs.later hb'⟩
theorem KdX.make {w : World} {hb mb : Nat} {fs : List Face} {fa : Option Addr} {fc : Nat} {v1 : Value} (e : Edg) (h1 : HsX w hb mb fs fa fc v1) (h2 : BesX w mb (edgesL fs)) : KdX w hb mb fs fa fc v1 e (w.alloc (.cells (edgCells e) 129)) :=
  ⟨(Below.refl _ w).alloc (Nat.le_refl _) _, heap_new _ _ _ rfl, h1.later ((Below.refl _ w).alloc (Nat.le_refl _) _), h2.later ((Below.refl _ w).alloc (Nat.le_refl _) _)⟩
def kindB (z1 z2 z3 da db lv ua ub : Bool) : Int := if (!z1 || !z2) = true then 4 else if z3 = true then 8 else if (da && db && lv) = true then 5 else if (da && db) = true then 6 else if (ua && ub) = true then 7 else 9
theorem kindB_of (f g : Face) (s : Sd) (a b : Int) (ha : a = risesF f s) (hb : b = risesF g (revS s)) : kindP f g s = kindB (sgn (aboveF f g s.a) == 0) (sgn (aboveF f g s.b) == 0) (a * g.run + b * f.run == 0) (decide (a < 0)) (decide (b < 0)) (levelF f s) (decide (0 < a)) (decide (0 < b)) := by
  unfold kindP kindB
  rw [← ha, ← hb, sgn_flat, sgn_flat]
  by_cases h1 : aboveF f g s.a = 0 <;> by_cases h2 : aboveF f g s.b = 0 <;> by_cases h3 : a * g.run + b * f.run = 0 <;> simp [h1, h2, h3, and_assoc]
def aloneB (lv ua : Bool) : Int := if lv = false then 2 else if ua = true then 1 else 3
theorem edge_small {fs : List Face} (h : OkFs fs) {e : Edg} (he : e ∈ edgesL fs) : SmP e.s.a 1000000 ∧ SmP e.s.b 1000000 := by
  obtain ⟨i, k, hi, hk, rfl⟩ := mem_edges.1 he
  have hf := h.face i hi
  exact ⟨inPlan_small (hf.plan _ (nth_mem hk)), inPlan_small (hf.plan _ (nth_mem (next_lt hf.least k)))⟩
theorem edge_face {fs : List Face} {e : Edg} (he : e ∈ edgesL fs) : ∃ i, i < fs.length ∧ e.face = (i : Int) := by
  obtain ⟨i, k, hi, hk, rfl⟩ := mem_edges.1 he
  exact ⟨i, hi, rfl⟩
theorem edges_few {fs : List Face} (h : OkFs fs) : (edgesL fs).length ≤ 100000 := by
  rw [edges_len]
  have h1 := offs_small (fs := fs) (c := 12) (fun i hi => (h.face i hi).most) fs.length (Nat.le_refl _)
  have h2 := h.most
  omega
theorem rises_in {f : Face} {s : Sd} (hg : argB f = true) (ha : SmP s.a 1000000) (hb : SmP s.b 1000000) : -400000000 ≤ risesF f s ∧ risesF f s ≤ 400000000 := by
  obtain ⟨q1, q2, q3, q4⟩ := way_small ha hb
  have rf := arg_run hg
  have hcr : -4000000 ≤ crossP (wayS s) (upV f.side) ∧ crossP (wayS s) (upV f.side) ≤ 4000000 := by
    unfold crossP upV
    repeat' split
    all_goals (simp only [Int.mul_zero, Int.mul_one, Int.mul_neg]; omega)
  have := mul_in (a := f.rise) (b := crossP (wayS s) (upV f.side)) (n := 100) (m := 4000000) (by omega) hcr
  unfold risesF
  omega
set_option maxHeartbeats 4000000 in
set_option maxRecDepth 100000 in
theorem kind_any (hb mb : Nat) (fs : List Face) (fa : Option Addr) (fc : Nat) (v1 : Value) (e : Edg) (w : World) (hH : HsX w hb mb fs fa fc v1) (hM : BesX w mb (edgesL fs)) (hok : OkFs fs) (he : e ∈ edgesL fs) :
    Calls Tryd.prog 70 #[.pointer (some ⟨hb, 0, none⟩), edgVal e] w fun e' w' => e' = .returned (.int .i64 (kindE fs e)) ∧ Below w.heap.size w w' := by
  obtain ⟨hsa, hsb⟩ := edge_small hok he
  obtain ⟨i, hi, hei⟩ := edge_face he
  have hgi := hok.arg i hi
  have hlen := edges_few hok
  obtain ⟨f, hf⟩ : ∃ f, f = fs.getD i default := ⟨_, rfl⟩
  have hfe : fs.getD e.face.toNat default = f := by rw [hf, hei]; rfl
  obtain ⟨a, ha⟩ : ∃ a, a = risesF f e.s := ⟨_, rfl⟩
  obtain ⟨lv, hlv⟩ : ∃ b, b = levelF f e.s := ⟨_, rfl⟩
  obtain ⟨ua, hua⟩ : ∃ b, b = decide (0 < a) := ⟨_, rfl⟩
  have c109 : Hid (∀ V, KdX w hb mb fs fa fc v1 e V → Calls Tryd.prog 109 #[.pointer (some ⟨hb, 0, none⟩), edgVal e] V fun e' w' => e' = .returned (.int .i64 a) ∧ Below V.heap.size V w') := fun V h => by rw [ha, hf]; exact rises_any hb mb fs fa fc v1 e i V h.hs hi hei hgi hsa hsb
  have c111 : Hid (∀ V, KdX w hb mb fs fa fc v1 e V → Calls Tryd.prog 111 #[.pointer (some ⟨hb, 0, none⟩), edgVal e] V fun e' w' => e' = .returned (.bool lv) ∧ Below V.heap.size V w') := fun V h => by rw [hlv, hf]; exact level_any hb mb fs fa fc v1 e i V h.hs hi hei hgi hsa hsb
  have c108a : Hid (∀ V, Calls Tryd.prog 108 #[.int .i64 a] V fun e' w' => e' = .returned (.int .i64 (sgn a)) ∧ V = w') := fun V => signOf_any a V
  have c87a : Hid (∀ V, Calls Tryd.prog 87 #[.int .i64 (sgn a)] V fun e' w' => e' = .returned (.bool ua) ∧ V = w') := fun V => by rw [hua, ← sgn_up]; exact up_any _ V
  have hK0 : Hid (KdX w hb mb fs fa fc v1 e (w.alloc (.cells (edgCells e) 129))) := KdX.make e hH hM
  obtain ⟨W0, hW0⟩ : ∃ W0, W0 = w.alloc (.cells (edgCells e) 129) := ⟨_, rfl⟩
  rw [← hW0] at hK0
  have c71 : Hid (∀ V, KdX w hb mb fs fa fc v1 e V → Calls Tryd.prog 71 #[.pointer (some ⟨hb, 0, none⟩), edgVal e] V fun e' w' => e' = .returned (.tuple #[edgVal ((otherE fs e).getD noEdg), .bool (otherE fs e).isSome]) ∧ Below V.heap.size V w') := fun V h => other_any hb mb fs fa fc v1 e V h.hs h.bs hsa hsb hlen
  have hal : Hid (∀ V (q : Edg), Below V.heap.size V (V.alloc (.cells #[.int .i64 q.face, .int .i64 q.number, .int .i64 q.s.a.x, .int .i64 q.s.a.y, .int .i64 q.s.b.x, .int .i64 q.s.b.y] 129))) := fun V q => (Below.refl _ V).alloc (Nat.le_refl _) _
  have hlvh := Lib.hid hlv
  have huah := Lib.hid hua
  obtain ⟨x0, x1, x2, x3, x4, x5⟩ := cells6 hK0.out.c
  replace hei := Lib.hid hei
  replace hf' := Lib.hid hf
  cases hoe : otherE fs e with
  | none =>
    have hE : Hid (kindE fs e = aloneB lv ua) := by
      unfold Hid aloneB
      rw [kind_alone hoe, hfe, ← ha, hlv, hua]
      simp
    rw [hoe] at c71
    dsimp only [Option.getD, Option.isSome] at c71
    replace c71 := Lib.hid c71.out
    replace hoe := Lib.hid hoe
    clear hlv hua ha hf hfe
    go_enter Tryd.func70, Tryd.ntmps70
    go_wp2_with fail
    rw [← hW0]
    replace hW0 := Lib.hid hW0
    cases lv with
    | false =>
      go_wp2_with (first | (go_at_call 109; (with_reducible refine (c109.out _ hK0.out).mono ?_); rintro r1 w1 ⟨rfl, hb1⟩; have hK1 := Lib.hid (hK0.out.later hb1); clear x0 x1 x2 x3 x4 x5; obtain ⟨x0, x1, x2, x3, x4, x5⟩ := cells6 hK1.out.c) | (go_at_call 71; (with_reducible refine (c71.out _ hK1.out).mono ?_); rintro r2 w2 ⟨rfl, hb2⟩; have hK2 := Lib.hid (hK1.out.later hb2); have hK3 : Hid (KdX w hb mb fs fa fc v1 e (w2.alloc (.cells #[.int .i64 0, .int .i64 0, .int .i64 0, .int .i64 0, .int .i64 0, .int .i64 0] 129))) := hK2.out.later ((Below.refl _ w2).alloc (Nat.le_refl _) _); clear x0 x1 x2 x3 x4 x5; obtain ⟨x0, x1, x2, x3, x4, x5⟩ := cells6 hK3.out.c) | (go_at_call 111; (with_reducible refine (c111.out _ hK3.out).mono ?_); rintro r3 w3 ⟨rfl, hb3⟩))
      go_ret
      exact ⟨by rw [hE.out]; rfl, hK3.out.b.trans (hb3.mono hK3.out.b.size)⟩
    | true =>
      go_wp2_with (first | (go_at_call 109; (with_reducible refine (c109.out _ hK0.out).mono ?_); rintro r1 w1 ⟨rfl, hb1⟩; have hK1 := Lib.hid (hK0.out.later hb1); clear x0 x1 x2 x3 x4 x5; obtain ⟨x0, x1, x2, x3, x4, x5⟩ := cells6 hK1.out.c) | (go_at_call 71; (with_reducible refine (c71.out _ hK1.out).mono ?_); rintro r2 w2 ⟨rfl, hb2⟩; have hK2 := Lib.hid (hK1.out.later hb2); have hK3 : Hid (KdX w hb mb fs fa fc v1 e (w2.alloc (.cells #[.int .i64 0, .int .i64 0, .int .i64 0, .int .i64 0, .int .i64 0, .int .i64 0] 129))) := hK2.out.later ((Below.refl _ w2).alloc (Nat.le_refl _) _); clear x0 x1 x2 x3 x4 x5; obtain ⟨x0, x1, x2, x3, x4, x5⟩ := cells6 hK3.out.c) | (go_at_call 111; (with_reducible refine (c111.out _ hK3.out).mono ?_); rintro r3 w3 ⟨rfl, hb3⟩) | (go_at_call 108; (with_reducible refine (c108a.out _).mono ?_); rintro r4 w4 ⟨rfl, rfl⟩))
      cases ua with
      | false =>
        go_wp2_with (go_at_call 87; (with_reducible refine (c87a.out _).mono ?_); rintro r5 w5 ⟨rfl, rfl⟩)
        go_ret
        exact ⟨by rw [hE.out]; rfl, hK3.out.b.trans (hb3.mono hK3.out.b.size)⟩
      | true =>
        go_wp2_with (go_at_call 87; (with_reducible refine (c87a.out _).mono ?_); rintro r5 w5 ⟨rfl, rfl⟩)
        go_ret
        exact ⟨by rw [hE.out]; rfl, hK3.out.b.trans (hb3.mono hK3.out.b.size)⟩
  | some o =>
    obtain ⟨om, os, ofc, _⟩ := other_some hok he hoe
    obtain ⟨hoa, hob⟩ := edge_small hok om
    obtain ⟨j, hj, hoj⟩ := edge_face om
    have hgj := hok.arg j hj
    obtain ⟨g, hg⟩ : ∃ g, g = fs.getD j default := ⟨_, rfl⟩
    have hgo : fs.getD o.face.toNat default = g := by rw [hg, hoj]; rfl
    obtain ⟨b, hbr⟩ : ∃ b, b = risesF g o.s := ⟨_, rfl⟩
    obtain ⟨s1, hs1⟩ : ∃ x, x = sgn (aboveF f g e.s.a) := ⟨_, rfl⟩
    obtain ⟨s2, hs2⟩ : ∃ x, x = sgn (aboveF f g e.s.b) := ⟨_, rfl⟩
    have hE0 : kindE fs e = kindB (s1 == 0) (s2 == 0) (a * g.run + b * f.run == 0) (decide (a < 0)) (decide (b < 0)) lv ua (decide (0 < b)) := by
      rw [kind_other hok he hoe, hfe, hgo, kindB_of f g e.s a b ha (by rw [hbr, os]), ← hs1, ← hs2, ← hlv, ← hua]
    obtain ⟨z1, hz1⟩ : ∃ x, x = (s1 == 0) := ⟨_, rfl⟩
    obtain ⟨z2, hz2⟩ : ∃ x, x = (s2 == 0) := ⟨_, rfl⟩
    obtain ⟨z3, hz3⟩ : ∃ x, x = (a * g.run + b * f.run == 0) := ⟨_, rfl⟩
    obtain ⟨da, hda⟩ : ∃ x, x = decide (a < 0) := ⟨_, rfl⟩
    obtain ⟨db, hdb⟩ : ∃ x, x = decide (b < 0) := ⟨_, rfl⟩
    obtain ⟨ub, hub⟩ : ∃ x, x = decide (0 < b) := ⟨_, rfl⟩
    rw [← hz1, ← hz2, ← hz3, ← hda, ← hdb, ← hub] at hE0
    have hE := Lib.hid hE0
    have hfi := arg_run (f := f) (by rw [hf]; exact hgi)
    have hgi2 := arg_run (f := g) (by rw [hg]; exact hgj)
    have ra := rises_in (f := f) (by rw [hf]; exact hgi) hsa hsb
    have rb := rises_in (f := g) (by rw [hg]; exact hgj) hoa hob
    rw [← ha] at ra
    rw [← hbr] at rb
    have m1 := mul_in (a := g.run) (b := a) (n := 100) (m := 400000000) (by omega) ra
    have m2 := mul_in (a := f.run) (b := b) (n := 100) (m := 400000000) (by omega) rb
    rw [Int.mul_comm g.run a] at m1
    rw [Int.mul_comm f.run b] at m2
    have u1 : IntKind.i64.wrap (a * g.run) = a * g.run := IntWalk.i64_in _ (by omega)
    have u2 : IntKind.i64.wrap (b * f.run) = b * f.run := IntWalk.i64_in _ (by omega)
    have u3 : IntKind.i64.wrap (a * g.run + b * f.run) = a * g.run + b * f.run := IntWalk.i64_in _ (by omega)
    have c109o : Hid (∀ V, KdX w hb mb fs fa fc v1 e V → Calls Tryd.prog 109 #[.pointer (some ⟨hb, 0, none⟩), edgVal o] V fun e' w' => e' = .returned (.int .i64 b) ∧ Below V.heap.size V w') := fun V h => by rw [hbr, hg]; exact rises_any hb mb fs fa fc v1 o j V h.hs hj hoj hgj hoa hob
    have c110a : Hid (∀ V, KdX w hb mb fs fa fc v1 e V → Calls Tryd.prog 110 #[.pointer (some ⟨hb, 0, none⟩), .int .i64 e.face, .int .i64 o.face, pntVal e.s.a] V fun e' w' => e' = .returned (.int .i64 s1) ∧ Below V.heap.size V w') := fun V h => by rw [hs1, hf, hg, hei.out, hoj]; exact above_any hb mb fs fa fc v1 i j e.s.a V h.hs hi hj hgi hgj hsa
    have c110b : Hid (∀ V, KdX w hb mb fs fa fc v1 e V → Calls Tryd.prog 110 #[.pointer (some ⟨hb, 0, none⟩), .int .i64 e.face, .int .i64 o.face, pntVal e.s.b] V fun e' w' => e' = .returned (.int .i64 s2) ∧ Below V.heap.size V w') := fun V h => by rw [hs2, hf, hg, hei.out, hoj]; exact above_any hb mb fs fa fc v1 i j e.s.b V h.hs hi hj hgi hgj hsb
    have c94a : Hid (∀ V, Calls Tryd.prog 94 #[.int .i64 s1] V fun e' w' => e' = .returned (.bool z1) ∧ V = w') := fun V => by rw [hz1]; exact flat_any s1 V
    have c94b : Hid (∀ V, Calls Tryd.prog 94 #[.int .i64 s2] V fun e' w' => e' = .returned (.bool z2) ∧ V = w') := fun V => by rw [hz2]; exact flat_any s2 V
    have c108b : Hid (∀ V, Calls Tryd.prog 108 #[.int .i64 b] V fun e' w' => e' = .returned (.int .i64 (sgn b)) ∧ V = w') := fun V => signOf_any b V
    have c61a : Hid (∀ V, Calls Tryd.prog 61 #[.int .i64 (sgn a)] V fun e' w' => e' = .returned (.bool da) ∧ V = w') := fun V => by rw [hda, ← sgn_down]; exact down_any _ V
    have c61b : Hid (∀ V, Calls Tryd.prog 61 #[.int .i64 (sgn b)] V fun e' w' => e' = .returned (.bool db) ∧ V = w') := fun V => by rw [hdb, ← sgn_down]; exact down_any _ V
    have c87b : Hid (∀ V, Calls Tryd.prog 87 #[.int .i64 (sgn b)] V fun e' w' => e' = .returned (.bool ub) ∧ V = w') := fun V => by rw [hub, ← sgn_up]; exact up_any _ V
    have hru : Hid (∀ V, HsX V hb mb fs fa fc v1 → ∃ ad, fa = some ad ∧ V.cell? ⟨hb, 0, none⟩ = some (.slice fa fs.length fc) ∧ V.cell? ⟨(ad.add (i * 7)).block, (ad.add (i * 7)).off + 5, none⟩ = some (.int .i64 f.run) ∧ V.cell? ⟨(ad.add (j * 7)).block, (ad.add (j * 7)).off + 5, none⟩ = some (.int .i64 g.run)) := fun V h => by
      obtain ⟨a1, e1, _, _, _, _, _, r1, _⟩ := h.fx.at7 hi
      obtain ⟨a2, e2, _, _, _, _, _, r2, _⟩ := h.fx.at7 hj
      rw [e1] at e2
      cases e2
      rw [← hf] at r1
      rw [← hg] at r2
      exact ⟨a1, e1, (cells3 h.c).1, r1, r2⟩
    rw [hoe] at c71
    dsimp only [Option.getD, Option.isSome] at c71
    replace c71 := Lib.hid c71.out
    replace hoe := Lib.hid hoe
    replace hoj := Lib.hid hoj
    clear hE0 hz1 hz2 hda hdb hub hs1 hs2 hbr hgo hg hlv hua ha hf hfe os ofc om hfi hgi2 ra rb m1 m2
    go_enter Tryd.func70, Tryd.ntmps70
    go_wp2_with fail
    rw [← hW0]
    replace hW0 := Lib.hid hW0
    go_wp2_with (first | (go_at_call 109; (with_reducible refine (c109.out _ hK0.out).mono ?_); rintro r1 w1 ⟨rfl, hb1⟩; have hK1 := Lib.hid (hK0.out.later hb1); clear x0 x1 x2 x3 x4 x5; obtain ⟨x0, x1, x2, x3, x4, x5⟩ := cells6 hK1.out.c) | (go_at_call 71; (with_reducible refine (c71.out _ hK1.out).mono ?_); rintro r2 w2 ⟨rfl, hb2⟩; have hK2 := Lib.hid (hK1.out.later hb2); have hK3 : Hid (KdX w hb mb fs fa fc v1 e (w2.alloc (.cells #[.int .i64 o.face, .int .i64 o.number, .int .i64 o.s.a.x, .int .i64 o.s.a.y, .int .i64 o.s.b.x, .int .i64 o.s.b.y] 129))) := hK2.out.later ((Below.refl _ w2).alloc (Nat.le_refl _) _); have hO3 : Hid ((w2.alloc (.cells #[.int .i64 o.face, .int .i64 o.number, .int .i64 o.s.a.x, .int .i64 o.s.a.y, .int .i64 o.s.b.x, .int .i64 o.s.b.y] 129)).heap[w2.heap.size]? = some (.cells (edgCells o) 129 (0, 0))) := heap_new _ _ _ rfl; clear x0 x1 x2 x3 x4 x5; obtain ⟨x0, x1, x2, x3, x4, x5⟩ := cells6 hK3.out.c; obtain ⟨y0, y1, y2, y3, y4, y5⟩ := cells6 hO3.out) | (go_at_call 109; (with_reducible refine (c109o.out _ hK3.out).mono ?_); rintro r3 w3 ⟨rfl, hb3⟩; have hK4 := Lib.hid (hK3.out.later hb3); have hO4 : Hid (w3.heap[w2.heap.size]? = some (.cells (edgCells o) 129 (0, 0))) := (hb3.block _ (lt_block hO3.out)).trans hO3.out; clear x0 x1 x2 x3 x4 x5 y0 y1 y2 y3 y4 y5; obtain ⟨x0, x1, x2, x3, x4, x5⟩ := cells6 hK4.out.c; obtain ⟨y0, _⟩ := cells6 hO4.out) | (go_at_call 108; (with_reducible refine (c108a.out _).mono ?_); clear c108a; rintro r4 w4 ⟨rfl, rfl⟩) | (go_at_call 108; (with_reducible refine (c108b.out _).mono ?_); rintro r4 w4 ⟨rfl, rfl⟩))
    cases z1 with
    | false =>
      go_wp2_with (first | (go_at_call 110; (with_reducible refine (c110a.out _ hK4.out).mono ?_); rintro r4 w4 ⟨rfl, hb4⟩) | (go_at_call 94; (with_reducible refine (c94a.out _).mono ?_); clear c94a; rintro r9 w9 ⟨rfl, rfl⟩))
      go_ret
      exact ⟨by rw [hE.out]; simp [kindB], hK4.out.b.trans (hb4.mono hK4.out.b.size)⟩
    | true =>
    go_wp2_with (first | (go_at_call 110; (with_reducible refine (c110a.out _ hK4.out).mono ?_); rintro r4 w4 ⟨rfl, hb4⟩; have hK5 := Lib.hid (hK4.out.later hb4); have hO5 : Hid (w4.heap[w2.heap.size]? = some (.cells (edgCells o) 129 (0, 0))) := (hb4.block _ (lt_block hO4.out)).trans hO4.out; clear x0 x1 x2 x3 x4 x5 y0; obtain ⟨x0, x1, x2, x3, x4, x5⟩ := cells6 hK5.out.c; obtain ⟨y0, _⟩ := cells6 hO5.out) | (go_at_call 94; (with_reducible refine (c94a.out _).mono ?_); clear c94a; rintro r9 w9 ⟨rfl, rfl⟩))
    cases z2 with
    | false =>
      go_wp2_with (first | (go_at_call 110; (with_reducible refine (c110b.out _ hK5.out).mono ?_); rintro r5 w5 ⟨rfl, hb5⟩) | (go_at_call 94; (with_reducible refine (c94b.out _).mono ?_); rintro r9 w9 ⟨rfl, rfl⟩))
      go_ret
      exact ⟨by rw [hE.out]; simp [kindB], hK5.out.b.trans (hb5.mono hK5.out.b.size)⟩
    | true =>
    go_wp2_with (first | (go_at_call 110; (with_reducible refine (c110b.out _ hK5.out).mono ?_); rintro r5 w5 ⟨rfl, hb5⟩) | (go_at_call 94; (with_reducible refine (c94b.out _).mono ?_); rintro r9 w9 ⟨rfl, rfl⟩))
    have hK6 := Lib.hid (hK5.out.later hb5)
    have hO6 : Hid (w5.heap[w2.heap.size]? = some (.cells (edgCells o) 129 (0, 0))) := (hb5.block _ (lt_block hO5.out)).trans hO5.out
    obtain ⟨ad, hA, _⟩ := hru.out w5 hK6.out.hs
    subst hA
    have hcl : Hid (∀ V, Below w5.heap.size w5 V → V.cell? ⟨hb, 0, none⟩ = some (.slice (some ad) fs.length fc) ∧ V.cell? ⟨w.heap.size, 0, none⟩ = some (.int .i64 (i : Int)) ∧ V.cell? ⟨w2.heap.size, 0, none⟩ = some (.int .i64 (j : Int)) ∧ V.cell? ⟨(ad.add (i * 7)).block, (ad.add (i * 7)).off + 5, none⟩ = some (.int .i64 f.run) ∧ V.cell? ⟨(ad.add (j * 7)).block, (ad.add (j * 7)).off + 5, none⟩ = some (.int .i64 g.run)) := fun V h => by
      have hV := hK6.out.later h
      obtain ⟨a1, e1, r0, r1, r2⟩ := hru.out V hV.hs
      cases e1
      have k1 := (cells6 hV.c).1
      have k2 := (cells6 ((h.block _ (lt_block hO6.out)).trans hO6.out)).1
      rw [hei.out] at k1
      rw [hoj.out] at k2
      exact ⟨r0, k1, k2, r1, r2⟩
    clear x0 x1 x2 x3 x4 x5 y0
    have hSd : Below w5.heap.size w5 w5.drew := (Below.refl _ _).drew
    have hz3' : Hid ((a * g.run + b * f.run == 0) = z3) := hz3.symm
    clear hz3
    refine wp_region_tree (fun V => Below w5.heap.size w5 V) (.pure 0 (.pure 1 (.pure 2 (.pure 3 (.pure 4 (.read 5 (.pure 6 (.read 7 (.pure 8 (.pure 9 (.read 10 (.pure 11 (.pure 12 (.pure 13 (.pure 14 (.pure 15 (.pure 16 (.read 17 (.pure 18 (.read 19 (.pure 20 (.pure 21 (.read 22 (.pure 23 (.pure 24 (.pure 25 (.pure 26 .done))))))))))))))))))))))))))) [] (by kernel_rfl) (by kernel_rfl) hSd ?_
    refine wpTree_pure (v := ?_) rfl (by rfl) ?_ (fun _ _ _ h => h) ?_
    rotate_left
    focus (intro w'; (try simp only [List.getElem_toArray, List.getElem_cons_zero, List.getElem_cons_succ]); go_simp; try with_reducible rfl)
    (try simp only [List.getElem_toArray, List.getElem_cons_zero, List.getElem_cons_succ, Act.put, List.setIfInBounds_toArray, List.set_cons_zero, List.set_cons_succ])
    refine wpTree_pure (v := ?_) rfl (by rfl) ?_ (fun _ _ _ h => h) ?_
    rotate_left
    focus (intro w'; (try simp only [List.getElem_toArray, List.getElem_cons_zero, List.getElem_cons_succ]); go_simp; try with_reducible rfl)
    (try simp only [List.getElem_toArray, List.getElem_cons_zero, List.getElem_cons_succ, Act.put, List.setIfInBounds_toArray, List.set_cons_zero, List.set_cons_succ])
    refine wpTree_pure (v := ?_) rfl (by rfl) ?_ (fun _ _ _ h => h) ?_
    rotate_left
    focus (intro w'; (try simp only [List.getElem_toArray, List.getElem_cons_zero, List.getElem_cons_succ]); go_simp; try with_reducible rfl)
    (try simp only [List.getElem_toArray, List.getElem_cons_zero, List.getElem_cons_succ, Act.put, List.setIfInBounds_toArray, List.set_cons_zero, List.set_cons_succ])
    refine wpTree_pure (v := ?_) rfl (by rfl) ?_ (fun _ _ _ h => h) ?_
    rotate_left
    focus (intro w'; (try simp only [List.getElem_toArray, List.getElem_cons_zero, List.getElem_cons_succ]); go_simp; try with_reducible rfl)
    (try simp only [List.getElem_toArray, List.getElem_cons_zero, List.getElem_cons_succ, Act.put, List.setIfInBounds_toArray, List.set_cons_zero, List.set_cons_succ])
    refine wpTree_pure (v := ?_) rfl (by rfl) ?_ (fun _ _ _ h => h) ?_
    rotate_left
    focus (intro w'; (try simp only [List.getElem_toArray, List.getElem_cons_zero, List.getElem_cons_succ]); go_simp; try with_reducible rfl)
    (try simp only [List.getElem_toArray, List.getElem_cons_zero, List.getElem_cons_succ, Act.put, List.setIfInBounds_toArray, List.set_cons_zero, List.set_cons_succ])
    refine wpTree_take (v := ?_) rfl (by rfl) ?_ (fun _ _ _ h => h) ?_
    rotate_left
    focus (intro w' hSw; obtain ⟨k0, k1, k2, k3, k4⟩ := hcl.out _ hSw; clear hSw; (try simp only [List.getElem_toArray, List.getElem_cons_zero, List.getElem_cons_succ]); go_simp; try with_reducible rfl)
    (try simp only [List.getElem_toArray, List.getElem_cons_zero, List.getElem_cons_succ, Act.put, List.setIfInBounds_toArray, List.set_cons_zero, List.set_cons_succ])
    refine wpTree_pure (v := ?_) rfl (by rfl) ?_ (fun _ _ _ h => h) ?_
    rotate_left
    focus (intro w'; (try simp only [List.getElem_toArray, List.getElem_cons_zero, List.getElem_cons_succ]); go_simp; try with_reducible rfl)
    (try simp only [List.getElem_toArray, List.getElem_cons_zero, List.getElem_cons_succ, Act.put, List.setIfInBounds_toArray, List.set_cons_zero, List.set_cons_succ])
    refine wpTree_take (v := ?_) rfl (by rfl) ?_ (fun _ _ _ h => h) ?_
    rotate_left
    focus (intro w' hSw; obtain ⟨k0, k1, k2, k3, k4⟩ := hcl.out _ hSw; clear hSw; (try simp only [List.getElem_toArray, List.getElem_cons_zero, List.getElem_cons_succ]); go_simp; try with_reducible rfl)
    (try simp only [List.getElem_toArray, List.getElem_cons_zero, List.getElem_cons_succ, Act.put, List.setIfInBounds_toArray, List.set_cons_zero, List.set_cons_succ])
    refine wpTree_pure (v := ?_) rfl (by rfl) ?_ (fun _ _ _ h => h) ?_
    rotate_left
    focus (intro w'; (try simp only [List.getElem_toArray, List.getElem_cons_zero, List.getElem_cons_succ]); go_simp; try with_reducible rfl)
    (try simp only [List.getElem_toArray, List.getElem_cons_zero, List.getElem_cons_succ, Act.put, List.setIfInBounds_toArray, List.set_cons_zero, List.set_cons_succ])
    refine wpTree_pure (v := ?_) rfl (by rfl) ?_ (fun _ _ _ h => h) ?_
    rotate_left
    focus (intro w'; (try simp only [List.getElem_toArray, List.getElem_cons_zero, List.getElem_cons_succ]); go_simp; try with_reducible rfl)
    (try simp only [List.getElem_toArray, List.getElem_cons_zero, List.getElem_cons_succ, Act.put, List.setIfInBounds_toArray, List.set_cons_zero, List.set_cons_succ])
    refine wpTree_take (v := ?_) rfl (by rfl) ?_ (fun _ _ _ h => h) ?_
    rotate_left
    focus (intro w' hSw; obtain ⟨k0, k1, k2, k3, k4⟩ := hcl.out _ hSw; clear hSw; (try simp only [List.getElem_toArray, List.getElem_cons_zero, List.getElem_cons_succ]); go_simp; try with_reducible rfl)
    (try simp only [List.getElem_toArray, List.getElem_cons_zero, List.getElem_cons_succ, Act.put, List.setIfInBounds_toArray, List.set_cons_zero, List.set_cons_succ])
    refine wpTree_pure (v := ?_) rfl (by rfl) ?_ (fun _ _ _ h => h) ?_
    rotate_left
    focus (intro w'; (try simp only [List.getElem_toArray, List.getElem_cons_zero, List.getElem_cons_succ]); go_simp; try with_reducible rfl)
    (try simp only [List.getElem_toArray, List.getElem_cons_zero, List.getElem_cons_succ, Act.put, List.setIfInBounds_toArray, List.set_cons_zero, List.set_cons_succ])
    refine wpTree_pure (v := ?_) rfl (by rfl) ?_ (fun _ _ _ h => h) ?_
    rotate_left
    focus (intro w'; (try simp only [List.getElem_toArray, List.getElem_cons_zero, List.getElem_cons_succ]); go_simp; try with_reducible rfl)
    (try simp only [List.getElem_toArray, List.getElem_cons_zero, List.getElem_cons_succ, Act.put, List.setIfInBounds_toArray, List.set_cons_zero, List.set_cons_succ])
    refine wpTree_pure (v := ?_) rfl (by rfl) ?_ (fun _ _ _ h => h) ?_
    rotate_left
    focus (intro w'; (try simp only [List.getElem_toArray, List.getElem_cons_zero, List.getElem_cons_succ]); go_simp; try with_reducible rfl)
    (try simp only [List.getElem_toArray, List.getElem_cons_zero, List.getElem_cons_succ, Act.put, List.setIfInBounds_toArray, List.set_cons_zero, List.set_cons_succ])
    refine wpTree_pure (v := ?_) rfl (by rfl) ?_ (fun _ _ _ h => h) ?_
    rotate_left
    focus (intro w'; (try simp only [List.getElem_toArray, List.getElem_cons_zero, List.getElem_cons_succ]); go_simp; try with_reducible rfl)
    (try simp only [List.getElem_toArray, List.getElem_cons_zero, List.getElem_cons_succ, Act.put, List.setIfInBounds_toArray, List.set_cons_zero, List.set_cons_succ])
    refine wpTree_pure (v := ?_) rfl (by rfl) ?_ (fun _ _ _ h => h) ?_
    rotate_left
    focus (intro w'; (try simp only [List.getElem_toArray, List.getElem_cons_zero, List.getElem_cons_succ]); go_simp; try with_reducible rfl)
    (try simp only [List.getElem_toArray, List.getElem_cons_zero, List.getElem_cons_succ, Act.put, List.setIfInBounds_toArray, List.set_cons_zero, List.set_cons_succ])
    refine wpTree_pure (v := ?_) rfl (by rfl) ?_ (fun _ _ _ h => h) ?_
    rotate_left
    focus (intro w'; (try simp only [List.getElem_toArray, List.getElem_cons_zero, List.getElem_cons_succ]); go_simp; try with_reducible rfl)
    (try simp only [List.getElem_toArray, List.getElem_cons_zero, List.getElem_cons_succ, Act.put, List.setIfInBounds_toArray, List.set_cons_zero, List.set_cons_succ])
    refine wpTree_take (v := ?_) rfl (by rfl) ?_ (fun _ _ _ h => h) ?_
    rotate_left
    focus (intro w' hSw; obtain ⟨k0, k1, k2, k3, k4⟩ := hcl.out _ hSw; clear hSw; (try simp only [List.getElem_toArray, List.getElem_cons_zero, List.getElem_cons_succ]); go_simp; try with_reducible rfl)
    (try simp only [List.getElem_toArray, List.getElem_cons_zero, List.getElem_cons_succ, Act.put, List.setIfInBounds_toArray, List.set_cons_zero, List.set_cons_succ])
    refine wpTree_pure (v := ?_) rfl (by rfl) ?_ (fun _ _ _ h => h) ?_
    rotate_left
    focus (intro w'; (try simp only [List.getElem_toArray, List.getElem_cons_zero, List.getElem_cons_succ]); go_simp; try with_reducible rfl)
    (try simp only [List.getElem_toArray, List.getElem_cons_zero, List.getElem_cons_succ, Act.put, List.setIfInBounds_toArray, List.set_cons_zero, List.set_cons_succ])
    refine wpTree_take (v := ?_) rfl (by rfl) ?_ (fun _ _ _ h => h) ?_
    rotate_left
    focus (intro w' hSw; obtain ⟨k0, k1, k2, k3, k4⟩ := hcl.out _ hSw; clear hSw; (try simp only [List.getElem_toArray, List.getElem_cons_zero, List.getElem_cons_succ]); go_simp; try with_reducible rfl)
    (try simp only [List.getElem_toArray, List.getElem_cons_zero, List.getElem_cons_succ, Act.put, List.setIfInBounds_toArray, List.set_cons_zero, List.set_cons_succ])
    refine wpTree_pure (v := ?_) rfl (by rfl) ?_ (fun _ _ _ h => h) ?_
    rotate_left
    focus (intro w'; (try simp only [List.getElem_toArray, List.getElem_cons_zero, List.getElem_cons_succ]); go_simp; try with_reducible rfl)
    (try simp only [List.getElem_toArray, List.getElem_cons_zero, List.getElem_cons_succ, Act.put, List.setIfInBounds_toArray, List.set_cons_zero, List.set_cons_succ])
    refine wpTree_pure (v := ?_) rfl (by rfl) ?_ (fun _ _ _ h => h) ?_
    rotate_left
    focus (intro w'; (try simp only [List.getElem_toArray, List.getElem_cons_zero, List.getElem_cons_succ]); go_simp; try with_reducible rfl)
    (try simp only [List.getElem_toArray, List.getElem_cons_zero, List.getElem_cons_succ, Act.put, List.setIfInBounds_toArray, List.set_cons_zero, List.set_cons_succ])
    refine wpTree_take (v := ?_) rfl (by rfl) ?_ (fun _ _ _ h => h) ?_
    rotate_left
    focus (intro w' hSw; obtain ⟨k0, k1, k2, k3, k4⟩ := hcl.out _ hSw; clear hSw; (try simp only [List.getElem_toArray, List.getElem_cons_zero, List.getElem_cons_succ]); go_simp; try with_reducible rfl)
    (try simp only [List.getElem_toArray, List.getElem_cons_zero, List.getElem_cons_succ, Act.put, List.setIfInBounds_toArray, List.set_cons_zero, List.set_cons_succ])
    refine wpTree_pure (v := ?_) rfl (by rfl) ?_ (fun _ _ _ h => h) ?_
    rotate_left
    focus (intro w'; (try simp only [List.getElem_toArray, List.getElem_cons_zero, List.getElem_cons_succ]); go_simp; try with_reducible rfl)
    (try simp only [List.getElem_toArray, List.getElem_cons_zero, List.getElem_cons_succ, Act.put, List.setIfInBounds_toArray, List.set_cons_zero, List.set_cons_succ])
    refine wpTree_pure (v := ?_) rfl (by rfl) ?_ (fun _ _ _ h => h) ?_
    rotate_left
    focus (intro w'; (try simp only [List.getElem_toArray, List.getElem_cons_zero, List.getElem_cons_succ]); go_simp; try with_reducible rfl)
    (try simp only [List.getElem_toArray, List.getElem_cons_zero, List.getElem_cons_succ, Act.put, List.setIfInBounds_toArray, List.set_cons_zero, List.set_cons_succ])
    refine wpTree_pure (v := ?_) rfl (by rfl) ?_ (fun _ _ _ h => h) ?_
    rotate_left
    focus (intro w'; (try simp only [List.getElem_toArray, List.getElem_cons_zero, List.getElem_cons_succ]); go_simp; try with_reducible rfl)
    (try simp only [List.getElem_toArray, List.getElem_cons_zero, List.getElem_cons_succ, Act.put, List.setIfInBounds_toArray, List.set_cons_zero, List.set_cons_succ])
    refine wpTree_pure (v := ?_) rfl (by rfl) ?_ (fun _ _ _ h => h) ?_
    rotate_left
    focus (intro w'; (try simp only [List.getElem_toArray, List.getElem_cons_zero, List.getElem_cons_succ]); go_simp; try with_reducible rfl)
    (try simp only [List.getElem_toArray, List.getElem_cons_zero, List.getElem_cons_succ, Act.put, List.setIfInBounds_toArray, List.set_cons_zero, List.set_cons_succ])
    (try unfold wpTree)
    obtain ⟨w6, hw6⟩ : ∃ x, x = w5.drew := ⟨_, rfl⟩
    have hK7 : Hid (KdX w hb mb fs (some ad) fc v1 e w6) := by rw [hw6]; exact hK6.out.later hSd
    rw [← hw6]
    replace hw6 := Lib.hid hw6
    obtain ⟨x0, x1, x2, x3, x4, x5⟩ := cells6 hK7.out.c
    rw [hz3'.out]
    cases z3 with
    | true =>
      go_wp2
      go_ret
      exact ⟨by rw [hE.out]; simp [kindB], hK7.out.b⟩
    | false =>
      cases da with
      | true =>
        cases db with
        | true =>
          cases lv with
          | true =>
            go_wp2_with (first | (go_at_call 61; (with_reducible refine (c61a.out _).mono ?_); rintro r9 w9 ⟨rfl, rfl⟩) | (go_at_call 61; (with_reducible refine (c61b.out _).mono ?_); rintro r9 w9 ⟨rfl, rfl⟩) | (go_at_call 87; (with_reducible refine (c87a.out _).mono ?_); rintro r9 w9 ⟨rfl, rfl⟩) | (go_at_call 87; (with_reducible refine (c87b.out _).mono ?_); rintro r9 w9 ⟨rfl, rfl⟩) | (go_at_call 111; (with_reducible refine (c111.out _ hK7.out).mono ?_); rintro r7 w7 ⟨rfl, hb7⟩))
            go_ret
            exact ⟨by rw [hE.out]; simp [kindB], by first | exact hK7.out.b | exact hK7.out.b.trans (hb7.mono hK7.out.b.size)⟩
          | false =>
            go_wp2_with (first | (go_at_call 61; (with_reducible refine (c61a.out _).mono ?_); rintro r9 w9 ⟨rfl, rfl⟩) | (go_at_call 61; (with_reducible refine (c61b.out _).mono ?_); rintro r9 w9 ⟨rfl, rfl⟩) | (go_at_call 87; (with_reducible refine (c87a.out _).mono ?_); rintro r9 w9 ⟨rfl, rfl⟩) | (go_at_call 87; (with_reducible refine (c87b.out _).mono ?_); rintro r9 w9 ⟨rfl, rfl⟩) | (go_at_call 111; (with_reducible refine (c111.out _ hK7.out).mono ?_); rintro r7 w7 ⟨rfl, hb7⟩))
            go_ret
            exact ⟨by rw [hE.out]; simp [kindB], by first | exact hK7.out.b | exact hK7.out.b.trans (hb7.mono hK7.out.b.size)⟩
        | false =>
          cases ua with
          | true =>
            cases ub with
            | true =>
              go_wp2_with (first | (go_at_call 61; (with_reducible refine (c61a.out _).mono ?_); rintro r9 w9 ⟨rfl, rfl⟩) | (go_at_call 61; (with_reducible refine (c61b.out _).mono ?_); rintro r9 w9 ⟨rfl, rfl⟩) | (go_at_call 87; (with_reducible refine (c87a.out _).mono ?_); rintro r9 w9 ⟨rfl, rfl⟩) | (go_at_call 87; (with_reducible refine (c87b.out _).mono ?_); rintro r9 w9 ⟨rfl, rfl⟩) | (go_at_call 111; (with_reducible refine (c111.out _ hK7.out).mono ?_); rintro r7 w7 ⟨rfl, hb7⟩))
              go_ret
              exact ⟨by rw [hE.out]; simp [kindB], by first | exact hK7.out.b | exact hK7.out.b.trans (hb7.mono hK7.out.b.size)⟩
            | false =>
              go_wp2_with (first | (go_at_call 61; (with_reducible refine (c61a.out _).mono ?_); rintro r9 w9 ⟨rfl, rfl⟩) | (go_at_call 61; (with_reducible refine (c61b.out _).mono ?_); rintro r9 w9 ⟨rfl, rfl⟩) | (go_at_call 87; (with_reducible refine (c87a.out _).mono ?_); rintro r9 w9 ⟨rfl, rfl⟩) | (go_at_call 87; (with_reducible refine (c87b.out _).mono ?_); rintro r9 w9 ⟨rfl, rfl⟩) | (go_at_call 111; (with_reducible refine (c111.out _ hK7.out).mono ?_); rintro r7 w7 ⟨rfl, hb7⟩))
              go_ret
              exact ⟨by rw [hE.out]; simp [kindB], by first | exact hK7.out.b | exact hK7.out.b.trans (hb7.mono hK7.out.b.size)⟩
          | false =>
            go_wp2_with (first | (go_at_call 61; (with_reducible refine (c61a.out _).mono ?_); rintro r9 w9 ⟨rfl, rfl⟩) | (go_at_call 61; (with_reducible refine (c61b.out _).mono ?_); rintro r9 w9 ⟨rfl, rfl⟩) | (go_at_call 87; (with_reducible refine (c87a.out _).mono ?_); rintro r9 w9 ⟨rfl, rfl⟩) | (go_at_call 87; (with_reducible refine (c87b.out _).mono ?_); rintro r9 w9 ⟨rfl, rfl⟩) | (go_at_call 111; (with_reducible refine (c111.out _ hK7.out).mono ?_); rintro r7 w7 ⟨rfl, hb7⟩))
            go_ret
            exact ⟨by rw [hE.out]; simp [kindB], by first | exact hK7.out.b | exact hK7.out.b.trans (hb7.mono hK7.out.b.size)⟩
      | false =>
        cases ua with
        | true =>
          cases ub with
          | true =>
            go_wp2_with (first | (go_at_call 61; (with_reducible refine (c61a.out _).mono ?_); rintro r9 w9 ⟨rfl, rfl⟩) | (go_at_call 61; (with_reducible refine (c61b.out _).mono ?_); rintro r9 w9 ⟨rfl, rfl⟩) | (go_at_call 87; (with_reducible refine (c87a.out _).mono ?_); rintro r9 w9 ⟨rfl, rfl⟩) | (go_at_call 87; (with_reducible refine (c87b.out _).mono ?_); rintro r9 w9 ⟨rfl, rfl⟩) | (go_at_call 111; (with_reducible refine (c111.out _ hK7.out).mono ?_); rintro r7 w7 ⟨rfl, hb7⟩))
            go_ret
            exact ⟨by rw [hE.out]; simp [kindB], by first | exact hK7.out.b | exact hK7.out.b.trans (hb7.mono hK7.out.b.size)⟩
          | false =>
            go_wp2_with (first | (go_at_call 61; (with_reducible refine (c61a.out _).mono ?_); rintro r9 w9 ⟨rfl, rfl⟩) | (go_at_call 61; (with_reducible refine (c61b.out _).mono ?_); rintro r9 w9 ⟨rfl, rfl⟩) | (go_at_call 87; (with_reducible refine (c87a.out _).mono ?_); rintro r9 w9 ⟨rfl, rfl⟩) | (go_at_call 87; (with_reducible refine (c87b.out _).mono ?_); rintro r9 w9 ⟨rfl, rfl⟩) | (go_at_call 111; (with_reducible refine (c111.out _ hK7.out).mono ?_); rintro r7 w7 ⟨rfl, hb7⟩))
            go_ret
            exact ⟨by rw [hE.out]; simp [kindB], by first | exact hK7.out.b | exact hK7.out.b.trans (hb7.mono hK7.out.b.size)⟩
        | false =>
          go_wp2_with (first | (go_at_call 61; (with_reducible refine (c61a.out _).mono ?_); rintro r9 w9 ⟨rfl, rfl⟩) | (go_at_call 61; (with_reducible refine (c61b.out _).mono ?_); rintro r9 w9 ⟨rfl, rfl⟩) | (go_at_call 87; (with_reducible refine (c87a.out _).mono ?_); rintro r9 w9 ⟨rfl, rfl⟩) | (go_at_call 87; (with_reducible refine (c87b.out _).mono ?_); rintro r9 w9 ⟨rfl, rfl⟩) | (go_at_call 111; (with_reducible refine (c111.out _ hK7.out).mono ?_); rintro r7 w7 ⟨rfl, hb7⟩))
          go_ret
          exact ⟨by rw [hE.out]; simp [kindB], by first | exact hK7.out.b | exact hK7.out.b.trans (hb7.mono hK7.out.b.size)⟩

end Go.Proofs.YthojfhdenfhjfaaDoor
end
section
namespace Go.Proofs.YthojfhdenfhjfaaDoor
open Go.RowKit Go.Lib Go.Shelf

attribute [local go_sem] Oper.semAt_some
abbrev EdgOf (fs : List Face) : Type := { x : Edg // x ∈ edgesL fs }
def encEdge {fs : List Face} (x : EdgOf fs) : Array Value := #[edgVal x.1]
theorem side_edge {fs : List Face} {i : Nat} (hi : i < fs.length) {x : Nat × Sd} (hx : x ∈ sidesI (fs.getD i default).corners) : (⟨(i : Int), (x.1 : Int), x.2⟩ : Edg) ∈ edgesL fs := by
  obtain ⟨k, hk, rfl⟩ := List.mem_map.1 hx
  exact mem_edges.2 ⟨i, k, hi, List.mem_range.1 hk, rfl⟩
def toE (fs : List Face) (i : Nat) (hi : i < fs.length) (x : SideOf (fs.getD i default).corners) : EdgOf fs := ⟨⟨(i : Int), (x.1.1 : Int), x.1.2⟩, side_edge hi x.2⟩
/-- The edges of the first faces. -/
def edgE (fs : List Face) : Nat → List (EdgOf fs)
  | 0 => []
  | i + 1 => if h : i < fs.length then edgE fs i ++ (sidesS (fs.getD i default).corners).map (toE fs i h) else edgE fs i
/-- The same, the face named. -/
def toEf (fs : List Face) (i : Nat) (f : Face) (hi : i < fs.length) (hf : f = fs.getD i default) (x : SideOf f.corners) : EdgOf fs := ⟨⟨(i : Int), (x.1.1 : Int), x.1.2⟩, side_edge hi (hf ▸ x.2)⟩
theorem toEf_all (fs : List Face) (i : Nat) (f : Face) (hi : i < fs.length) (hf : f = fs.getD i default) : edgE fs (i + 1) = edgE fs i ++ (sidesS f.corners).map (toEf fs i f hi hf) := by
  subst hf
  rw [edgE, dif_pos hi]
  rfl
theorem toE_all (fs : List Face) (i : Nat) (hi : i < fs.length) : ((sidesS (fs.getD i default).corners).map (toE fs i hi)).map (·.1) = edgesOf fs i := by
  rw [List.map_map]
  have e : ((fun x : EdgOf fs => x.1) ∘ toE fs i hi) = (fun x : Nat × Sd => (⟨(i : Int), (x.1 : Int), x.2⟩ : Edg)) ∘ (fun x : SideOf (fs.getD i default).corners => x.1) := rfl
  rw [e, ← List.map_map]
  have e2 : (sidesS (fs.getD i default).corners).map (fun x => x.1) = sidesI (fs.getD i default).corners := by unfold sidesS; exact List.attach_map_subtype_val _
  rw [e2]
  unfold sidesI edgesOf
  rw [List.map_map]
  rfl
theorem edgE_val (fs : List Face) : ∀ i, i ≤ fs.length → (edgE fs i).map (·.1) = (List.range i).flatMap (edgesOf fs)
  | 0, _ => rfl
  | i + 1, h => by
    rw [edgE, dif_pos (show i < fs.length by omega), List.map_append, edgE_val fs i (by omega), toE_all, List.range_succ, List.flatMap_append]
    simp
theorem edgE_len (fs : List Face) (i : Nat) (h : i ≤ fs.length) : (edgE fs i).length = offs fs i := by
  have := congrArg List.length (edgE_val fs i h)
  rw [List.length_map, flat_len] at this
  exact this
/-- What a round keeps: what lay below n₀; the blocks of the kinds of the iterator's own variables; and what is no variable, from m0 on. -/
structure KpE (m0 n₀ : Nat) (V V' : World) : Prop where
  b : Below n₀ V V'
  t : ∀ (k : Nat) (cs : Array Value) (t : TypeId) (m : Nat × Nat), t ∈ [3, 43, 45, 104, 156, 160] → V.heap[k]? = some (.cells cs t m) → V'.heap[k]? = some (.cells cs t m)
  o : KeepsFrom m0 V V'
theorem KpE.trans {m0 n₀ : Nat} {A B C : World} (h : KpE m0 n₀ A B) (k : KpE m0 n₀ B C) : KpE m0 n₀ A C :=
  ⟨h.b.trans k.b, fun i cs t m ht hi => k.t i cs t m ht (h.t i cs t m ht hi), h.o.trans k.o⟩
theorem KpE.put {m0 n₀ : Nat} {w : World} (hn : n₀ ≤ w.heap.size) (V : World) (l : Nat) (o o' : Obj) (hl : w.heap.size ≤ l) (hl2 : l < m0) (h : V.heap[l]? = some o) (ho : o.isCells = false) : KpE m0 n₀ V (V.putObj l o') := by
  have hlt := (Array.getElem?_eq_some_iff.1 h).1
  refine ⟨(Below.refl n₀ V).grown (grownBy_putObj' V l o') (by omega) (fun k e => by cases e; omega), fun k cs t m _ hk => ?_, ⟨by simp [World.putObj], fun k o2 hB hk _ => (World.putObj_heap_other (by omega)).trans hk⟩⟩
  refine (World.putObj_heap_other (fun e => ?_)).trans hk
  subst e
  rw [h] at hk
  cases hk
  cases ho
theorem KpE.of_below {m0 n₀ : Nat} {V V' : World} (h : Below V.heap.size V V') (hn : n₀ ≤ V.heap.size) : KpE m0 n₀ V V' :=
  ⟨h.mono hn, fun k cs t m _ hk => (h.block _ (lt_block hk)).trans hk, keepsOf h⟩
/-- What the iterator reads: the faces; its variable; the house; yield's box. -/
structure EtX (n₀ : Nat) (w0 : World) (b0 Bs hb mb : Nat) (fs : List Face) (fa : Option Addr) (fc : Nat) (v1 : Value) (y : Nat) (V : World) : Prop where
  a : Below n₀ w0 V
  h : V.heap[hb]? = some (.cells #[.slice fa fs.length fc, v1, .map (some mb)] 156 (0, 0))
  s : V.heap[Bs]? = some (.cells #[.pointer (some ⟨hb, 0, none⟩)] 104 (0, 0))
  z : V.heap[b0]? = some (.cells #[.func (.yield y) #[] #[]] 160 (0, 0))
  n : n₀ ≤ V.heap.size
section
variable {m0 n₀ : Nat} {w0 : World} {b0 Bs hb mb : Nat} {fs : List Face} {fa : Option Addr} {fc : Nat} {v1 : Value} {y : Nat} {V V' : World}
theorem EtX.later (h : EtX n₀ w0 b0 Bs hb mb fs fa fc v1 y V) (hb' : Below V.heap.size V V') : EtX n₀ w0 b0 Bs hb mb fs fa fc v1 y V' :=
  ⟨h.a.trans (hb'.mono h.n), (hb'.block _ (lt_block h.h)).trans h.h, (hb'.block _ (lt_block h.s)).trans h.s, (hb'.block _ (lt_block h.z)).trans h.z, Nat.le_trans h.n hb'.size⟩
theorem EtX.kp (h : EtX n₀ w0 b0 Bs hb mb fs fa fc v1 y V) (hk : KpE m0 n₀ V V') : EtX n₀ w0 b0 Bs hb mb fs fa fc v1 y V' :=
  ⟨h.a.trans hk.b, hk.t _ _ _ _ (by simp) h.h, hk.t _ _ _ _ (by simp) h.s, hk.t _ _ _ _ (by simp) h.z, Nat.le_trans h.n hk.b.size⟩
theorem grown_cells {X Y : World} {row : Option Nat} {k : Nat} {cs : Array Value} {t : TypeId} {m : Nat × Nat} (hg : X.grownBy Y row) (hr : ∀ r, row = some r → ∃ o : Obj, X.heap[r]? = some o ∧ o.isCells = false) (hk : X.heap[k]? = some (.cells cs t m)) : Y.heap[k]? = some (.cells cs t m) :=
  (hg.block k (lt_block hk) (fun e => by obtain ⟨o, ho, hc⟩ := hr k e.symm; rw [hk] at ho; cases ho; cases hc)).trans hk
theorem EtX.grown {X Y : World} {row : Option Nat} (h : EtX n₀ w0 b0 Bs hb mb fs fa fc v1 y X) (hg : X.grownBy Y row) (hr : ∀ r, row = some r → n₀ ≤ r ∧ ∃ o : Obj, X.heap[r]? = some o ∧ o.isCells = false) : EtX n₀ w0 b0 Bs hb mb fs fa fc v1 y Y :=
  have q := fun r e => (hr r e).2
  ⟨h.a.grown hg h.n (fun k e => (hr k e).1), grown_cells hg q h.h, grown_cells hg q h.s, grown_cells hg q h.z, Nat.le_trans h.n hg.size⟩
end
theorem Marks.from {n : Nat} {W W' : World} (hk : KeepsFrom n W W') : ∀ {ds : List Deferred}, Marks n W ds → Marks n W' ds
  | [], _ => trivial
  | _ :: _, ⟨⟨r, h1, h2, h3, h4⟩, h5⟩ => ⟨⟨r, h1, h2, hk.same _ _ h1 h3 rfl, h4⟩, Marks.from hk h5⟩
theorem room_none (k : Nat) : Fence.wide.room k := fun d h => by cases h
theorem yield_deep {m : Nat} (m' : Nat) {P : Program} {l : Nat} {args : Array Value} {W : World} {R : Ending → World → Prop} (h : YieldAt Fence.wide m P l args W R) : YieldAt Fence.wide m' P l args W R := by
  obtain ⟨fn, tmps, assign, body, hy, hR⟩ := h
  exact ⟨fn, tmps, assign, body, hy, hR.1, fun c cs _ => hR.2 c cs (room_none _)⟩
theorem houseEdges_any (hb : Nat) (w : World) : Calls Tryd.prog 67 #[.pointer (some ⟨hb, 0, none⟩)] w fun e w' => e = .returned (.func (.func 107) #[] #[.pointer (some ⟨w.heap.size, 0, none⟩)]) ∧ w' = w.alloc (.cells #[.pointer (some ⟨hb, 0, none⟩)] 104) := by
  go_enter Tryd.func67, Tryd.ntmps67
  go_wp2
  go_ret
  exact ⟨rfl, rfl⟩
set_option maxHeartbeats 4000000 in
set_option maxRecDepth 100000 in
theorem edges1_in (y m0 n₀ Bs hb mb : Nat) (fs : List Face) (fa : Option Addr) (fc : Nat) (v1 : Value) (w0 : World) (hF : RdFaces w0 fa fs) (h0 : w0.heap.size ≤ n₀) (hlf : fs.length ≤ 100000) (hlc : ∀ f ∈ fs, f.corners.length ≤ 100000)
    (J : List (EdgOf fs) → World → Prop) (hJ : ∀ s A B, J s A → Below m0 A B → (∀ (k : Nat) (o : Obj), A.heap[k]? = some o → o.isCells = true → B.heap[k]? = some o) → J s B)
    (hY : ∀ pre x W1, J pre W1 → pre.length < (edgesL fs).length → YieldAt Fence.wide 10 Tryd.prog y (encEdge x) W1 fun e W' => e = .returned (.bool true) ∧ J (pre ++ [x]) W' ∧ KpE m0 n₀ W1 W')
    (W : World) (hm : m0 ≤ W.heap.size) (hnm : n₀ ≤ m0) (hW : Below n₀ w0 W) (hh : W.heap[hb]? = some (.cells #[.slice fa fs.length fc, v1, .map (some mb)] 156 (0, 0))) (hs : W.heap[Bs]? = some (.cells #[.pointer (some ⟨hb, 0, none⟩)] 104 (0, 0))) (hJ0 : J [] W) :
    CallsIn Fence.wide 11 Tryd.prog 107 (#[.func (.yield y) #[] #[]] ++ #[.pointer (some ⟨Bs, 0, none⟩)]) W fun e W' => (∃ v, e = .returned v) ∧ ∃ xs : List (EdgOf fs), xs.map (·.1) = edgesL fs ∧ J xs W' := by
  have hE0 : Hid (EtX n₀ w0 W.heap.size Bs hb mb fs fa fc v1 y (W.alloc (.cells #[.func (.yield y) #[] #[]] 160))) :=
    ⟨hW.trans (((Below.refl _ W).alloc (Nat.le_refl _) _).mono (Nat.le_trans hnm hm)), heap_old _ _ _ _ hh, heap_old _ _ _ _ hs, heap_new _ _ _ rfl, by simp; omega⟩
  have hJa : Hid (J [] (W.alloc (.cells #[.func (.yield y) #[] #[]] 160))) := hJ _ _ _ hJ0 (((Below.refl _ W).alloc (Nat.le_refl _) _).mono hm) (fun k o h _ => heap_old _ _ _ _ h)
  have q0 := cells1 hE0.out.s
  obtain ⟨q1, q2, q3⟩ := cells3 hE0.out.h
  refine callsIn_of_wp_marks Tryd.func107 rfl trivial ?_ rfl
  simp only [Tryd.ntmps107, List.size_toArray, List.length_cons, List.length_nil, Nat.reduceAdd, Nat.reduceSub, Array.replicate_succ, Array.replicate_zero, List.push_toArray, List.append_toArray, List.nil_append, List.cons_append]
  gi_wp2
  refine wpIn_loop (fun a' w' => ∃ (k : Nat) (ds : List Deferred) (v3 v4 v14 v15 v16 v17 v18 v19 v20 v30 : Value), (k ≤ fs.length ∧ Hid (J (edgE fs k) w') ∧ Hid (EtX n₀ w0 W.heap.size Bs hb mb fs fa fc v1 y w') ∧ Hid (W.heap.size < w'.heap.size) ∧ Hid (Marks m0 w' ds)) ∧ a' = { tmps := #[.func (.yield y) #[] #[], .pointer (some ⟨Bs, 0, none⟩), .pointer (some ⟨W.heap.size, 0, none⟩), v3, v4, undef, undef, .pointer (some ⟨hb, 0, none⟩), .pointer (some ⟨hb, 0, none⟩), .pointer (some ⟨hb, 0, none⟩), .pointer (some ⟨hb, 0, none⟩), .slice fa fs.length fc, .int .i64 (fs.length : Int), .int .i64 (k : Int), v14, v15, v16, v17, v18, v19, v20, undef, undef, undef, undef, undef, undef, undef, undef, undef, v30], defers := ds }) (fun a' _ => fs.length - (intOf (a'.tmps.getD 13 undef)).toNat) ⟨0, [], _, _, _, _, _, _, _, _, _, _, ⟨Nat.zero_le _, hJa.out, hE0.out, by unfold Hid; simp, trivial⟩, rfl⟩ ?_
  clear q0 q1 q2 q3
  rintro a' wA ⟨k, ds, v3, v4, v14, v15, v16, v17, v18, v19, v20, v30, ⟨hk, hJk, hEk, hsk, hMk⟩, rfl⟩
  by_cases hlt : k < fs.length
  · obtain ⟨adf, hA', p0, p1, p2, p3, p4, p5, p6⟩ := (hF.below (hEk.out.a.mono h0)).at7 hlt
    subst hA'
    obtain ⟨f, hf⟩ : ∃ f, f = fs.getD k default := ⟨_, rfl⟩
    rw [← hf] at p0 p1 p2 p3 p4 p5 p6
    have hfm : f ∈ fs := by rw [hf]; exact nth_mem hlt
    have hPf := (hF.2 f hfm).1
    have hlf1 := hlc f hfm
    replace hf := Lib.hid hf
    gi_wp2_with (refine ⟨trivial, ?_⟩; gi_at_call 46; refine (callsIn_wide.2 (sides_any f.ca f.corners.length f.cc _)).mono ?_; rintro e w' ⟨rfl, rfl⟩)
    obtain ⟨wS, hwS⟩ : ∃ x, x = ((wA.alloc (.cells #[.int .i64 (k : Int)] 3)).alloc (.cells (fCells f) 45)).alloc (.cells #[.slice f.ca f.corners.length f.cc] 43) := ⟨_, rfl⟩
    rw [← hwS]
    have hbS : Below wA.heap.size wA wS := by rw [hwS]; exact (((Below.refl _ wA).alloc (Nat.le_refl _) _).alloc (by simp) _).alloc (by simp; omega) _
    have hsz : wS.heap.size = wA.heap.size + 3 := by rw [hwS]; simp
    have hib : wS.heap[wA.heap.size]? = some (.cells #[.int .i64 (k : Int)] 3 (0, 0)) := by rw [hwS]; exact heap_old _ _ _ _ (heap_old _ _ _ _ (heap_new _ _ _ rfl))
    have hsl : wS.heap[wA.heap.size + 1 + 1]? = some (.cells #[.slice f.ca f.corners.length f.cc] 43 (0, 0)) := by rw [hwS]; exact heap_new _ _ _ (by simp)
    replace hwS := Lib.hid hwS
    have hES := hEk.out.later hbS
    have hmA : m0 ≤ wA.heap.size := Nat.le_of_lt (Nat.lt_of_le_of_lt hm hsk.out)
    have hJS : J (edgE fs k) wS := hJ _ _ _ hJk.out (hbS.mono hmA) (fun k o h _ => (hbS.block k (lt_block h)).trans h)
    have hMS : Marks m0 wS ds := hMk.out.below hbS
    have hmS : m0 ≤ wS.heap.size := by omega
    have hPS := hES.n
    clear p0 p1 p2 p3 p4 p5 p6
    refine wpIn_rangeFunc_ownH rfl (by decide) (gf := 91) (lb := #[.pointer (some ⟨wA.heap.size + 1 + 1, 0, none⟩)]) rfl trivial (enters_of Tryd.func91 (by kernel_rfl) rfl)
      (sides_stops Fence.wide 10 trivial rfl (by decide) (wA.heap.size + 1 + 1) n₀ f.ca f.cc f.corners w0 wS hPf h0 hES.a hPS hlf1 hsl) KpS_t (KpS_b hPS (by omega)) (Below.refl _ _) (fun _ => rfl)
      (fun pre V => J (edgE fs k ++ pre.map (toEf fs k f hlt hf.out)) V ∧ EtX n₀ w0 W.heap.size Bs hb mb fs (some adf) fc v1 y V ∧ V.heap[wA.heap.size]? = some (.cells #[.int .i64 (k : Int)] 3 (0, 0)) ∧ V.heap[wA.heap.size + 1 + 1]? = some (.cells #[.slice f.ca f.corners.length f.cc] 43 (0, 0)) ∧ KeepsFrom m0 wS V)
      (fun _ _ _ => False)
      (fun pre X Y row hs hg hr => ⟨hJ _ X Y hs.1 ((Below.refl m0 X).grown hg (Nat.le_trans hmS hs.2.2.2.2.size) (fun r e => Nat.le_trans hmS (hr r e).1)) (fun k o h ho => (hg.block k (lt_block h) (fun e => by obtain ⟨o2, h2, h3⟩ := (hr k e.symm).2; rw [h] at h2; cases h2; rw [ho] at h3; cases h3)).trans h), hs.2.1.grown hg (fun r e => ⟨Nat.le_trans hPS (hr r e).1, (hr r e).2⟩), grown_cells hg (fun r e => (hr r e).2) hs.2.2.1, grown_cells hg (fun r e => (hr r e).2) hs.2.2.2.1, ownFrom_keepsFrom (β := Unit) (Nat.le_refl _) () X Y row hs.2.2.2.2 hg hr⟩)
      (fun _ _ _ _ _ hs _ _ => hs)
      ⟨by simpa using hJS, hES, hib, hsl, KeepsFrom.refl _ _⟩
      (fun x a' V => ∃ Bx, wS.heap.size ≤ Bx ∧ V.heap[Bx]? = some (.cells (sdCells x.1.2) 100 (0, 0)) ∧ a' = { tmps := #[.func (.yield y) #[] #[], .pointer (some ⟨Bs, 0, none⟩), .pointer (some ⟨W.heap.size, 0, none⟩), .pointer (some ⟨wA.heap.size, 0, none⟩), .pointer (some ⟨wA.heap.size + 1, 0, none⟩), .int .i64 (x.1.1 : Int), .pointer (some ⟨Bx, 0, none⟩), .pointer (some ⟨hb, 0, none⟩), .pointer (some ⟨hb, 0, none⟩), .pointer (some ⟨hb, 0, none⟩), .pointer (some ⟨hb, 0, none⟩), .slice (some adf) fs.length fc, .int .i64 (fs.length : Int), .int .i64 (k : Int), .bool true, .int .i64 (k : Int), .pointer (some (adf.add (k * 7))), .agg (fCells f), .pointer (some ⟨wA.heap.size + 1, 6, none⟩), .slice f.ca f.corners.length f.cc, .func (.func 91) #[] #[.pointer (some ⟨wA.heap.size + 1 + 1, 0, none⟩)], .int .i64 (x.1.1 : Int), .agg (sdCells x.1.2), undef, undef, undef, undef, undef, undef, undef, v30], defers := [] })
      (fun x a' _ X Y row hs hg hr => by obtain ⟨Bx, e1, e2, e3⟩ := hs; exact ⟨Bx, e1, block_own Bx (fun (_ : Unit) => sdCells x.1.2) 100 () X Y row e2 hg (fun r e => (hr r e).2), e3⟩)
      ?assign ?body ?done ?stop
    case assign =>
      rintro y2 pre x V K ⟨hJ1, hE1, hI1, hS1, hK1⟩ hK
      unfold encSide
      gi_wp2
      exact hK _ _ ((KeepsOthers.alloc _ _).from _) ⟨(Below.refl _ V).alloc hE1.n _, (heap_old _ _ _ _ hS1).trans hS1.symm⟩ ⟨hJ _ _ _ hJ1 (((Below.refl _ V).alloc (Nat.le_refl _) _).mono (Nat.le_trans hmS hK1.size)) (fun k o h _ => heap_old _ _ _ _ h), hE1.later ((Below.refl _ V).alloc (Nat.le_refl _) _), heap_old _ _ _ _ hI1, heap_old _ _ _ _ hS1, hK1.trans ((KeepsOthers.alloc _ _).from _)⟩ ⟨V.heap.size, hK1.size, heap_new _ _ _ rfl, rfl⟩
    case body =>
      rintro y2 pre x a' V hy2 _ ⟨hJ1, hE1, hI1, hS1, hK1⟩ ⟨Bx, hBx, bX, rfl⟩ hlen
      have hlen2 : (edgE fs k ++ pre.map (toEf fs k f hlt hf.out)).length < (edgesL fs).length := by
        rw [List.length_append, List.length_map, edgE_len fs k (by omega), edges_len]
        have h1 := offs_mono fs (show k + 1 ≤ fs.length by omega)
        have h2 : lenF fs k = f.corners.length := by unfold lenF; rw [← hf.out]
        rw [offs, h2] at h1
        omega
      obtain ⟨fn, tmps, assign, body, hyy, hR⟩ := hY _ (toEf fs k f hlt hf.out x) V hJ1 hlen2
      dsimp only [encEdge, toEf] at hyy
      have r0 := cells1 hE1.z
      have r1 := cells1 hI1
      obtain ⟨r2, r3, r4, r5⟩ := cells4 bX
      gi_wp2
      refine RoundIn.mono (show RoundIn (Fence.wide.inRound y2) _ _ _ _ _ _ _ _ _ from ⟨hR.1, fun c cs _ => hR.2 c cs (room_none _)⟩) ?_
      rintro e W3 ⟨rfl, hJ3, hk3⟩
      clear r0 r1 r2 r3 r4 r5
      gi_wp2
      exact ⟨⟨hk3.o.size, fun q o hB => hk3.o.same q o (Nat.le_trans hmS hB)⟩, ⟨hk3.b, (hk3.t _ _ _ _ (by simp) hS1).trans hS1.symm⟩, by rw [List.map_append, ← List.append_assoc]; exact hJ3, hE1.kp hk3, hk3.t _ _ _ _ (by simp) hI1, hk3.t _ _ _ _ (by simp) hS1, hK1.trans hk3.o⟩
    case done =>
      rintro D ys V hD rfl ⟨hJ1, hE1, hI1, hS1, hK1⟩ hK
      have hMn : Hid (Marks m0 V ({ target := .collected D, args := #[] } :: ds)) := ⟨⟨D, Nat.le_trans hmS hD, rfl, hK, fun e he ht => absurd (hMS.lt e he ht) (by omega)⟩, hMS.from hK1⟩
      have hwk : IntKind.i64.wrap ((k : Int) + 1) = (k : Int) + 1 := IntWalk.i64_in _ (by omega)
      have hJn : Hid (J (edgE fs (k + 1)) V) := by unfold Hid; rw [toEf_all fs k f hlt hf.out]; exact hJ1
      have hsv := hK1.size
      have hsk2 := hsk.out
      gi_wp2
      refine ⟨⟨k + 1, { target := .collected D, args := #[] } :: ds, _, _, _, _, _, _, _, _, _, _, ⟨by omega, hJn.out, hE1, by unfold Hid; omega, hMn.out⟩, rfl⟩, ?_⟩
      simp [intOf]
      omega
    case stop =>
      rintro D c' pre V _ _ h _
      exact h.elim
  · obtain rfl : k = fs.length := by omega
    gi_wp2
    refine leaves_marks (n := m0) ds wA hMk.out fun W' hb' hc => ?_
    exact ⟨_, results_none rfl _ _ _, ⟨_, rfl⟩, edgE fs fs.length, edgE_val fs _ (Nat.le_refl _), hJ _ _ _ hJk.out hb' hc⟩
end Go.Proofs.YthojfhdenfhjfaaDoor
end
section
namespace Go.Proofs.YthojfhdenfhjfaaDoor
open Go.RowKit Go.Lib Go.Shelf

theorem infoE : (Tryd.prog.info? 129).map (fun i => (i.zero, i.size, i.bytes)) = some (some (.agg #[.int .i64 0, .int .i64 0, .int .i64 0, .int .i64 0, .int .i64 0, .int .i64 0]), 6, 48) := by kernel_rfl
theorem infoR : (Tryd.prog.info? 35).map (fun i => (i.zero, i.size, i.bytes)) = some (some (.agg #[.int .i64 0, .int .i64 0, .int .i64 0, .int .i64 0, .int .i64 0]), 5, 40) := by kernel_rfl
section
variable {P : Program} (w : World) {F : Fence} {nF : Nat}
theorem opIn_app {o : Oper} {a : Act} {K : Act → World → Prop} {Q : Exit → Act → World → Prop} (s x : Operand) (t : TypeId)
    (ho : o.op = .call { callee := .builtin .append, args := #[s, x], argTypes := #[t, t] })
    (base : Nat) (e : TypeId) (size bytes : Nat) (ht : P.underlying t = some (.slice e)) {z : Value} (hinfo : (P.info? e).map (fun i => (i.zero, i.size, i.bytes)) = some (some z, size, bytes)) (hzs : z.cells.size = size) (hsz : 0 < size)
    (v : Value) (n : Nat) (xs : List Value) (hs : a.eval s = v) (hown : w.ownsRow base e size v n xs)
    (ad : Addr) (m c : Nat) (news : List Value) (hx : a.eval x = .slice (some ad) m c) (hl : news.length = m * size) (hnews : ∀ j u, news[j]? = some u → w.cell? (ad.add j) = some u) (h1 : ∀ u ∈ news, u.oneCell' = true)
    (h63 : n + m ≤ maxLen) (hbytes : (n + m) * bytes ≤ 140737488355328) (hbase : base ≤ w.heap.size)
    (h : ∀ v' w', w'.ownsRow base e size v' (n + m) (xs ++ news) → w.grownBy w' v.ownBlock → (∀ k, v'.ownBlock = some k → v.ownBlock = some k ∨ w.heap.size ≤ k) → K (a.put o.dst v') w') : o.wpIn F nF P a w K Q := by
  obtain ⟨i, hi, hzz⟩ := Option.map_eq_some_iff.1 hinfo
  simp only [Prod.mk.injEq] at hzz
  obtain ⟨hz, hsize, hby⟩ := hzz
  obtain ⟨v', w', hr, h2, h3, h4⟩ := run_append_near (P := P) w base t o.type e i z size bytes ht hi hz hsize hby hzs hsz v n xs hown ad m c news hl hnews h1 h63 hbytes hbase
  unfold Oper.wpIn
  refine ⟨by simp [Oper.about, ho, resolve, Target.leads, Sem.run_pure], ?_⟩
  rw [Oper.semAt_plain F _ _ (by rw [ho]; intro c hc'; cases hc')]
  simp [execOp, ho, resolve, invoke, builtin, hs, hx, hr, Result.andThen]
  exact h v' w' h2 h3 h4
theorem opIn_store {o : Oper} {a : Act} {K : Act → World → Prop} {Q : Exit → Act → World → Prop} (mo x v : Operand) (t : TypeId) (hop : o.op = Op.mapUpdate t mo x v)
    (k e : TypeId) (Ky : Go.Maps.Keyed P k) (ht : P.underlying t = some (.map k e)) (b n : Nat) (m : Value → Option Value)
    (hm : a.eval mo = .map (some b)) (hown : MapIs w P k b n m) (key val : Value) (kl : Lit) (hx : a.eval x = key) (hv : a.eval v = val) (hkey : keyOf P k key = some kl)
    (m' : Value → Option Value) (hm1 : m' key = some val) (hm2 : ∀ x l, keyOf P k x = some l → x ≠ key → m' x = m x)
    (hK : ∀ w', MapIs w' P k b (n + 1) m' → w.grownBy w' (some b) → K (a.put o.dst undef) w') : o.wpIn F nF P a w K Q := by
  obtain ⟨w', hrun, r1, r2, _⟩ := hown.update Ky ht hkey hm1 hm2
  unfold Oper.wpIn
  refine ⟨by simp [Oper.about, hop], ?_⟩
  rw [Oper.semAt_plain F _ _ (by rw [hop]; intro c hc'; cases hc')]
  simp [execOp, hop, hm, hx, hv, hrun, Result.andThen]
  exact hK w' r1 r2
end
abbrev nilV : Value := .slice none 0 0
def SmS (s : Sd) : Prop := SmP s.a 1000000 ∧ SmP s.b 1000000
def atKey (m : Value → Option Value) (s : Sd) : Value := (m (.agg (sdCells s))).getD nilV
/-- The rows: one for each key, at base or beyond, no two in one block. -/
structure RowsX (V : World) (base : Nat) (m : Value → Option Value) (L : List Edg) : Prop where
  row : ∀ s, SmS s → V.ownsRow base 129 6 (atKey m s) (atEnds L s).length ((atEnds L s).flatMap encEdg)
  two : ∀ s t, SmS s → SmS t → s ≠ t → ∀ k, (atKey m s).ownBlock = some k → (atKey m t).ownBlock ≠ some k
theorem RowsX.below {V V' : World} {base : Nat} {m : Value → Option Value} {L : List Edg} (h : RowsX V base m L) (hb : Below V.heap.size V V') : RowsX V' base m L :=
  ⟨fun s hs => ownsRow_same (h.row s hs) (fun k hk => hb.block k ((h.row s hs).lt k hk).2), h.two⟩
theorem ends_small {s : Sd} (h : SmS s) : SmS (endsS s) := by unfold endsS; split; exact ⟨h.2, h.1⟩; exact h
open Classical in
noncomputable def updM (m : Value → Option Value) (key v : Value) : Value → Option Value := fun x => if x = key then some v else m x
theorem updM_same (m : Value → Option Value) (key v : Value) : updM m key v key = some v := by unfold updM; rw [if_pos rfl]
theorem updM_other {m : Value → Option Value} {key v x : Value} (h : x ≠ key) : updM m key v x = m x := by unfold updM; rw [if_neg h]
theorem atEnds_same (L : List Edg) (e : Edg) : atEnds (L ++ [e]) (endsS e.s) = atEnds L (endsS e.s) ++ [e] := by unfold atEnds; simp [List.filter_append]
theorem atEnds_other {L : List Edg} {e : Edg} {s : Sd} (h : s ≠ endsS e.s) : atEnds (L ++ [e]) s = atEnds L s := by unfold atEnds; simp [List.filter_append, Ne.symm h]
/-- One edge more. -/
theorem rows_step {Wb V w1 w2 : World} {m0 n₀ B mb n n2 : Nat} {m : Value → Option Value} {L : List Edg} {e : Edg} {v' : Value} (hR : RowsX Wb m0 m L) (hM : MapIs Wb Tryd.prog 100 mb n m) (he : SmS e.s) (hmb : mb < B) (hB : B ≤ m0) (hn0 : n₀ ≤ mb)
    (hS : Below Wb.heap.size Wb V) (hrow : w1.ownsRow m0 129 6 v' ((atEnds L (endsS e.s)).length + 1) ((atEnds L (endsS e.s)).flatMap encEdg ++ encEdg e)) (hg : V.grownBy w1 (atKey m (endsS e.s)).ownBlock)
    (hnear : ∀ k, v'.ownBlock = some k → (atKey m (endsS e.s)).ownBlock = some k ∨ V.heap.size ≤ k)
    (hmap : MapIs w2 Tryd.prog 100 mb n2 (updM m (.agg (sdCells (endsS e.s))) v')) (hg2 : w1.grownBy w2 (some mb)) :
    RowsX w2 m0 (updM m (.agg (sdCells (endsS e.s))) v') (L ++ [e]) ∧ KpE m0 n₀ Wb w2 ∧ KeepsFrom B Wb w2 := by
  have hes := ends_small he
  have hk0 := hR.row _ hes
  have hkey : ∀ s, s ≠ endsS e.s → atKey (updM m (.agg (sdCells (endsS e.s))) v') s = atKey m s := fun s h => by unfold atKey; rw [updM_other (fun q => h (sd_inj q))]
  have hkey2 : atKey (updM m (.agg (sdCells (endsS e.s))) v') (endsS e.s) = v' := by unfold atKey; rw [updM_same]; rfl
  have hmbl : mb < Wb.heap.size := hM.lt
  have hVs := hS.size
  have hw1 : V.heap.size ≤ w1.heap.size := hg.size
  -- a block that lay, and is neither the row's nor the map's
  have keep : ∀ k, k < Wb.heap.size → some k ≠ (atKey m (endsS e.s)).ownBlock → k ≠ mb → w2.heap[k]? = Wb.heap[k]? := fun k hk h1 h2 =>
    ((hg2.block k (by omega) (fun q => h2 (by cases q; rfl))).trans (hg.block k (by omega) h1)).trans (hS.block k hk)
  refine ⟨⟨?_, ?_⟩, ⟨?_, ?_, ?_⟩, ?_⟩
  · intro s hs
    by_cases hq : s = endsS e.s
    · subst hq
      rw [hkey2, atEnds_same, List.length_append, List.flatMap_append]
      simp only [List.length_cons, List.length_nil, List.flatMap_cons, List.flatMap_nil, List.append_nil]
      refine ownsRow_same hrow (fun k hk => hg2.block k (hrow.lt k hk).2 (fun q => ?_))
      have := (hrow.lt k hk).1
      cases q
      omega
    · rw [hkey s hq, atEnds_other hq]
      refine ownsRow_same (hR.row s hs) (fun k hk => ?_)
      have hlt := (hR.row s hs).lt k hk
      exact keep k hlt.2 (fun q => hR.two s _ hs hes hq k hk q.symm) (by omega)
  · intro s t hs ht hne k hk
    by_cases hq : s = endsS e.s
    · subst hq
      rw [hkey2] at hk
      rw [hkey t (Ne.symm hne)]
      intro ht2
      rcases hnear k hk with q | q
      · exact hR.two _ t hs ht hne k q ht2
      · have := ((hR.row t ht).lt k ht2).2
        omega
    · rw [hkey s hq] at hk
      by_cases hq2 : t = endsS e.s
      · subst hq2
        rw [hkey2]
        intro hv
        rcases hnear k hv with q | q
        · exact hR.two s _ hs hes hq k hk q
        · have := ((hR.row s hs).lt k hk).2
          omega
      · rw [hkey t hq2]
        exact hR.two s t hs ht hne k hk
  · refine (Below.grown (Below.grown (hS.mono (by omega)) hg (by omega) (fun k q => ?_)) hg2 (by omega) (fun k q => by cases q; omega))
    have := (hk0.lt k q).1
    omega
  · intro k cs t mm ht hk
    have hlt := lt_block hk
    refine (keep k hlt (fun q => ?_) (fun q => ?_)).trans hk
    · rcases hk0.2 with ⟨h1, _⟩ | ⟨g, cap, cur, h1, _, h3, _⟩
      · rw [h1] at q; cases q
      · rw [h1] at q
        simp [Value.ownBlock] at q
        subst q
        rw [hk] at h3
        cases h3
        simp at ht
    · subst q
      obtain ⟨es, c, h1, _⟩ := hM
      rw [hk] at h1
      cases h1
  · refine ⟨Nat.le_trans (Nat.le_trans hVs hw1) hg2.size, fun k o hB' hk ho => (keep k (lt_block hk) (fun q => ?_) (by omega)).trans hk⟩
    rcases hk0.2 with ⟨h1, _⟩ | ⟨g, cap, cur, h1, _, h3, _⟩
    · rw [h1] at q; cases q
    · rw [h1] at q
      simp [Value.ownBlock] at q
      subst q
      rw [hk] at h3
      cases h3
      cases ho
  · refine ⟨Nat.le_trans (Nat.le_trans hVs hw1) hg2.size, fun k o hB' hk ho => (keep k (lt_block hk) (fun q => ?_) (by omega)).trans hk⟩
    rcases hk0.2 with ⟨h1, _⟩ | ⟨g, cap, cur, h1, _, h3, _⟩
    · rw [h1] at q; cases q
    · rw [h1] at q
      simp [Value.ownBlock] at q
      subst q
      rw [hk] at h3
      cases h3
      cases ho
theorem encEdg_len (e : Edg) : (encEdg e).length = 6 := rfl
theorem own_flat {V : World} {base : Nat} {v : Value} {L : List Edg} (h : V.ownsRow base 129 6 v L.length (L.flatMap encEdg)) (hl : L.length ≤ 100000) : EdRow V v L := by
  rcases h.2 with ⟨h1, h2⟩ | ⟨g, cap, cur, h1, _, h3, _, _, _, h4⟩
  · have : L = [] := List.eq_nil_of_length_eq_zero h2
    subst this
    exact ⟨none, 0, h1, by simp, fun i x hx => by simp at hx⟩
  · refine ⟨some ⟨g, 0, none⟩, cap, h1, by omega, fun i x hx => ⟨_, rfl, fun j u hu => ?_⟩⟩
    exact h.cells (g := g) (by rw [h1]; rfl) _ _ (flat_get encEdg_len L i x j u hx hu)
theorem RowsX.bes {V : World} {base mb n : Nat} {m : Value → Option Value} {L : List Edg} (h : RowsX V base m L) (hM : MapIs V Tryd.prog 100 mb n m) (hl : L.length ≤ 100000) : BesX V mb L :=
  ⟨n, m, hM, fun s ha hb => own_flat (h.row s ⟨ha, hb⟩) (Nat.le_trans (List.length_filter_le _ _) hl)⟩
end Go.Proofs.YthojfhdenfhjfaaDoor
end
section
namespace Go.Proofs.YthojfhdenfhjfaaDoor
open Go.RowKit Go.Lib Go.Shelf

attribute [local go_sem] Oper.semAt_some
theorem RowsX.cells {V V' : World} {base : Nat} {m : Value → Option Value} {L : List Edg} (h : RowsX V base m L) (hc : ∀ (k : Nat) (o : Obj), V.heap[k]? = some o → o.isCells = true → V'.heap[k]? = some o) : RowsX V' base m L :=
  ⟨fun s hs => by
    have h1 := h.row s hs
    refine ⟨h1.1, ?_⟩
    rcases h1.2 with h2 | ⟨g, cap, cur, h2, h3, h4, r⟩
    · exact .inl h2
    · exact .inr ⟨g, cap, cur, h2, h3, hc _ _ h4 rfl, r⟩, h.two⟩
abbrev valsE {fs : List Face} (pre : List (EdgOf fs)) : List Edg := pre.map (·.1)
theorem row_news {V : World} {b : Nat} {e : Edg} (h : V.heap[b]? = some (.cells (edgCells e) 129 (0, 0))) : ∀ j u, (encEdg e)[j]? = some u → V.cell? ((⟨b, 0, none⟩ : Addr).add j) = some u := fun j u hj => by
  rw [lit_add]
  simp only [World.cell?, h]
  have : (edgCells e)[j]? = some u := by rw [← Array.getElem?_toList]; exact hj
  simp [this]
theorem row_one (e : Edg) : ∀ u ∈ encEdg e, u.oneCell' = true := fun u hu => by
  simp [encEdg] at hu
  rcases hu with rfl | rfl | rfl | rfl | rfl | rfl <;> rfl
/-- The house while it is built. -/
structure BuX (w : World) (m0 hb mb b5 : Nat) (v0 v1 : Value) (L : List Edg) (V : World) : Prop where
  z : Below w.heap.size w V
  h : V.heap[hb]? = some (.cells #[v0, v1, .map (some mb)] 156 (0, 0))
  b : V.heap[b5]? = some (.cells #[.pointer (some ⟨hb, 0, none⟩)] 104 (0, 0))
  mp : ∃ n m, MapIs V Tryd.prog 100 mb n m ∧ RowsX V m0 m L
section
variable {w : World} {m0 hb mb b5 : Nat} {v0 v1 : Value} {L : List Edg} {V V' : World}
theorem BuX.later (h : BuX w m0 hb mb b5 v0 v1 L V) (hb' : Below V.heap.size V V') : BuX w m0 hb mb b5 v0 v1 L V' :=
  ⟨h.z.trans (hb'.mono h.z.size), (hb'.block _ (lt_block h.h)).trans h.h, (hb'.block _ (lt_block h.b)).trans h.b, by obtain ⟨n, m, h1, h2⟩ := h.mp; exact ⟨n, m, h1.below hb' h1.lt, h2.below hb'⟩⟩
theorem BuX.keep (h : BuX w m0 hb mb b5 v0 v1 L V) (hw : w.heap.size ≤ m0) (hm : mb < m0) (hb' : Below m0 V V') (hc : ∀ (k : Nat) (o : Obj), V.heap[k]? = some o → o.isCells = true → V'.heap[k]? = some o) : BuX w m0 hb mb b5 v0 v1 L V' :=
  ⟨h.z.trans (hb'.mono hw), hc _ _ h.h rfl, hc _ _ h.b rfl, by obtain ⟨n, m, h1, h2⟩ := h.mp; exact ⟨n, m, h1.below hb' hm, h2.cells hc⟩⟩
theorem BuX.grown {B : Nat} {row : Option Nat} (h : BuX w m0 hb mb b5 v0 v1 L V) (hg : V.grownBy V' row) (hw : w.heap.size ≤ B) (hm : mb < B) (hr : ∀ r, row = some r → B ≤ r ∧ ∃ o : Obj, V.heap[r]? = some o ∧ o.isCells = false) : BuX w m0 hb mb b5 v0 v1 L V' :=
  have hc : ∀ (k : Nat) (o : Obj), V.heap[k]? = some o → o.isCells = true → V'.heap[k]? = some o := fun k o h ho => (hg.block k (lt_block h) (fun e => by obtain ⟨o2, h2, h3⟩ := (hr k e.symm).2; rw [h] at h2; cases h2; rw [ho] at h3; cases h3)).trans h
  ⟨h.z.grown hg h.z.size (fun k e => Nat.le_trans hw (hr k e).1), hc _ _ h.h rfl, hc _ _ h.b rfl, by
    obtain ⟨n, m, h1, h2⟩ := h.mp
    exact ⟨n, m, h1.kept hg (fun e => by have := (hr _ e.symm).1; omega), h2.cells hc⟩⟩
end
/-- What a round's region reads. -/
structure BtX (b5 hb mb Bx nm : Nat) (v0 v1 : Value) (m : Value → Option Value) (e : Edg) (V : World) : Prop where
  b : V.heap[b5]? = some (.cells #[.pointer (some ⟨hb, 0, none⟩)] 104 (0, 0))
  h : V.heap[hb]? = some (.cells #[v0, v1, .map (some mb)] 156 (0, 0))
  x : V.heap[Bx]? = some (.cells (edgCells e) 129 (0, 0))
  mp : MapIs V Tryd.prog 100 mb nm m
theorem BtX.later {b5 hb mb Bx nm : Nat} {v0 v1 : Value} {m : Value → Option Value} {e : Edg} {V V' : World} (h : BtX b5 hb mb Bx nm v0 v1 m e V) (hb' : Below V.heap.size V V') : BtX b5 hb mb Bx nm v0 v1 m e V' :=
  ⟨(hb'.block _ (lt_block h.b)).trans h.b, (hb'.block _ (lt_block h.h)).trans h.h, (hb'.block _ (lt_block h.x)).trans h.x, h.mp.below hb' h.mp.lt⟩
theorem BtX.grown {b5 hb mb Bx nm : Nat} {v0 v1 : Value} {m : Value → Option Value} {e : Edg} {V V' : World} {row : Option Nat} (h : BtX b5 hb mb Bx nm v0 v1 m e V) (hg : V.grownBy V' row) (hr : ∀ r, row = some r → r ≠ b5 ∧ r ≠ hb ∧ r ≠ mb ∧ r ≠ Bx) : BtX b5 hb mb Bx nm v0 v1 m e V' :=
  ⟨(hg.block _ (lt_block h.b) (fun q => (hr _ q.symm).1 rfl)).trans h.b, (hg.block _ (lt_block h.h) (fun q => (hr _ q.symm).2.1 rfl)).trans h.h, (hg.block _ (lt_block h.x) (fun q => (hr _ q.symm).2.2.2 rfl)).trans h.x, h.mp.kept hg (fun q => (hr _ q.symm).2.2.1 rfl)⟩
set_option maxHeartbeats 4000000 in
set_option maxRecDepth 100000 in
theorem built_any (r : Roof) (w : World) (hR : RdRoof w r) (hlf : r.faces.length ≤ 100000) (hlo : r.opens.length ≤ 100000) :
    Calls Tryd.prog 50 #[roofVal r] w fun e w' => Below w.heap.size w w' ∧ ((checkR r ≠ 0 ∧ e = .returned (.tuple #[.pointer none, .int .i64 (checkR r)])) ∨ (checkR r = 0 ∧ ∃ hb mb, e = .returned (.tuple #[.pointer (some ⟨hb, 0, none⟩), .int .i64 0]) ∧
      w'.heap[hb]? = some (.cells #[.slice r.fa r.faces.length r.fc, .slice r.oa r.opens.length r.oc, .map (some mb)] 156 (0, 0)) ∧ BesX w' mb (edgesL r.faces))) := by
  obtain ⟨ce, hce⟩ : ∃ x, x = checkR r := ⟨_, rfl⟩
  have hok : ce = 0 → OkFs r.faces := fun h => OkFs.of (hce ▸ h)
  have c15 : Hid (∀ V, Below w.heap.size w V → Calls Tryd.prog 15 #[roofVal r] V fun e w' => e = .returned (.int .i64 ce) ∧ Below V.heap.size V w') := fun V hV => by rw [hce]; exact check_any r V (hR.below hV) hlf hlo
  rw [← hce]
  replace hce := Lib.hid hce
  obtain ⟨fs, os, fa, fc, oa, oc⟩ := r
  obtain ⟨hRF, hRO, hcf, hco⟩ := hR
  dsimp only [roofVal] at *
  have hB0 : Hid (Below w.heap.size w (w.alloc (.cells #[.slice fa fs.length fc, .slice oa os.length oc] 25))) := (Below.refl _ w).alloc (Nat.le_refl _) _
  have hc0 : Hid ((w.alloc (.cells #[.slice fa fs.length fc, .slice oa os.length oc] 25)).heap[w.heap.size]? = some (.cells #[.slice fa fs.length fc, .slice oa os.length oc] 25 (0, 0))) := heap_new _ _ _ rfl
  refine (callsIn_wide (n := 12)).1 ?_
  refine callsIn_of_wp_marks Tryd.func50 rfl trivial ?_ rfl
  simp only [Tryd.ntmps50, List.size_toArray, List.length_cons, List.length_nil, Nat.reduceAdd, Nat.reduceSub, Array.replicate_succ, Array.replicate_zero, List.push_toArray, List.append_toArray, List.nil_append, List.cons_append]
  by_cases hz : ce = 0
  · subst hz
    have hok' := Lib.hid (hok rfl)
    have hmm := @run_makeMap Tryd.prog
    gi_wp2_with (first | (refine ⟨trivial, ?_⟩; gi_at_call 15; refine (callsIn_wide.2 (c15.out _ hB0.out)).mono ?_; rintro e w1 ⟨rfl, hb1⟩; have hc1 := Lib.hid ((hb1.block _ (lt_block hc0.out)).trans hc0.out); obtain ⟨x0, x1⟩ := cells2 hc1.out) | (refine ⟨trivial, ?_⟩; gi_at_call 67; refine (callsIn_wide.2 (houseEdges_any _ _)).mono ?_; rintro e w2 ⟨rfl, rfl⟩))
    obtain ⟨wS, hwS⟩ : ∃ x, x = ((((w1.alloc (.map #[] 0)).alloc (.cells #[.slice fa fs.length fc, .slice oa os.length oc, .map (some w1.heap.size)] 156)).alloc (.cells #[.pointer (some ⟨w1.heap.size + 1, 0, none⟩)] 104)).alloc (.cells #[.pointer (some ⟨w1.heap.size + 1, 0, none⟩)] 104)) := ⟨_, rfl⟩
    rw [← hwS]
    have hB1 : Below w.heap.size w w1 := hB0.out.trans (hb1.mono hB0.out.size)
    have hs1 := hB1.size
    have hBS1 : Below w1.heap.size w1 wS := by rw [hwS]; exact ((((Below.refl _ w1).alloc (Nat.le_refl _) _).alloc (by simp) _).alloc (by simp; omega) _).alloc (by simp; omega) _
    have hsz : wS.heap.size = w1.heap.size + 4 := by rw [hwS]; simp
    have hmpS : MapIs wS Tryd.prog 100 w1.heap.size 0 (fun _ => none) := by rw [hwS]; exact (((MapIs.made w1 Tryd.prog 100).alloc _).alloc _).alloc _
    have hhS : wS.heap[w1.heap.size + 1]? = some (.cells #[.slice fa fs.length fc, .slice oa os.length oc, .map (some w1.heap.size)] 156 (0, 0)) := by rw [hwS]; exact heap_old _ _ _ _ (heap_old _ _ _ _ (heap_new _ _ _ (by simp)))
    have hbS : wS.heap[w1.heap.size + 1 + 1]? = some (.cells #[.pointer (some ⟨w1.heap.size + 1, 0, none⟩)] 104 (0, 0)) := by rw [hwS]; exact heap_old _ _ _ _ (heap_new _ _ _ (by simp))
    have hcS : wS.heap[w1.heap.size + 1 + 1 + 1]? = some (.cells #[.pointer (some ⟨w1.heap.size + 1, 0, none⟩)] 104 (0, 0)) := by rw [hwS]; exact heap_new _ _ _ (by simp)
    have hBS : Below w.heap.size w wS := hB1.trans (hBS1.mono hs1)
    replace hwS := Lib.hid hwS
    clear x0 x1 hmm
    have hI0 : BuX w (wS.heap.size + 2) (w1.heap.size + 1) w1.heap.size (w1.heap.size + 1 + 1) (.slice fa fs.length fc) (.slice oa os.length oc) [] wS :=
      ⟨hBS, hhS, hbS, 0, fun _ => none, hmpS, fun s _ => World.ownsRow_nil _ _ _ _, fun s t _ _ _ k hk => by cases hk⟩
    have hlc : ∀ f ∈ fs, f.corners.length ≤ 100000 := fun f hf => by
      obtain ⟨k, hk, rfl⟩ := nth_of hf
      have := (hok'.out.face k hk).most
      omega
    refine range_low (F := Fence.wide) (n := 12) (α := EdgOf fs) rfl (by decide) (gf := 107) (lb := #[.pointer (some ⟨w1.heap.size + 1 + 1 + 1, 0, none⟩)]) rfl trivial (enters_of Tryd.func107 (by kernel_rfl) rfl) (encs := encEdge) (Kp := KpE (wS.heap.size + 2) w.heap.size) (S := fun xs => xs.map (·.1) = edgesL fs)
      (fun pre V => BuX w (wS.heap.size + 2) (w1.heap.size + 1) w1.heap.size (w1.heap.size + 1 + 1) (.slice fa fs.length fc) (.slice oa os.length oc) (valsE pre) V) (edgesL fs).length
      (fun l J V hV hVs hJk _ hYY hJ0 => edges1_in l (wS.heap.size + 2) w.heap.size (w1.heap.size + 1 + 1 + 1) (w1.heap.size + 1) w1.heap.size fs fa fc _ w hRF (Nat.le_refl _) hlf hlc J hJk hYY V hVs (by omega) (hBS.trans (hV.mono hBS.size)) ((hV.block _ (lt_block hhS)).trans hhS) ((hV.block _ (lt_block hcS)).trans hcS) hJ0)
      KpE.trans (fun V l o o' hl hl2 h ho => KpE.put (w := wS) hBS.size V l o o' hl hl2 h ho) (fun _ => rfl)
      (fun pre X Y row hs hg hr => hs.grown hg hBS.size (by omega) hr) (fun s A B hs hb hc => hs.keep (by omega) (by omega) hb hc) hI0
      (fun pre x a' V => ∃ Bx, wS.heap.size + 2 ≤ Bx ∧ V.heap[Bx]? = some (.cells (edgCells x.1) 129 (0, 0)) ∧ a' = { tmps := #[.agg #[.slice fa fs.length fc, .slice oa os.length oc], .pointer (some ⟨w.heap.size, 0, none⟩), .pointer none, .int .i64 0, .int .i64 0, .pointer (some ⟨w1.heap.size + 1 + 1, 0, none⟩), .pointer (some ⟨Bx, 0, none⟩), .agg #[.slice fa fs.length fc, .slice oa os.length oc], .int .i64 0, .int .i64 0, .bool false, undef, .agg #[.slice fa fs.length fc, .slice oa os.length oc], .map (some w1.heap.size), .agg #[.slice fa fs.length fc, .slice oa os.length oc, .map (some w1.heap.size)], .pointer (some ⟨w1.heap.size + 1, 0, none⟩), .pointer (some ⟨w1.heap.size + 1, 0, none⟩), .func (.func 107) #[] #[.pointer (some ⟨w1.heap.size + 1 + 1 + 1, 0, none⟩)], edgVal x.1, undef, undef, undef, undef, undef, undef, undef, undef, undef, undef, undef, undef, undef, undef, undef, undef, undef, undef, undef], defers := [] } ∧ Below w.heap.size w V ∧ V.heap[w1.heap.size + 1]? = some (.cells #[.slice fa fs.length fc, .slice oa os.length oc, .map (some w1.heap.size)] 156 (0, 0)) ∧ V.heap[w1.heap.size + 1 + 1]? = some (.cells #[.pointer (some ⟨w1.heap.size + 1, 0, none⟩)] 104 (0, 0)) ∧ ∃ n m, MapIs V Tryd.prog 100 w1.heap.size n m ∧ RowsX V (wS.heap.size + 2) m (valsE pre) ∧ ∀ s, SmS s → ∀ k, (atKey m s).ownBlock = some k → k < Bx)
      (fun x a' pre X Y row hs hg hr => by
        obtain ⟨Bx, e1, e2, e3, hz1, hh1, hb2, n, m, h1, h2, h3⟩ := hs
        have g := (BuX.mk hz1 hh1 hb2 ⟨n, m, h1, h2⟩ : BuX w (wS.heap.size + 2) (w1.heap.size + 1) w1.heap.size (w1.heap.size + 1 + 1) (.slice fa fs.length fc) (.slice oa os.length oc) (valsE pre) X).grown hg hBS.size (by omega) hr
        exact ⟨Bx, e1, grown_cells hg (fun r e => (hr r e).2) e2, e3, g.z, g.h, g.b, n, m, h1.kept hg (fun e => by have := (hr _ e.symm).1; omega), h2.cells (fun k o h ho => (hg.block k (lt_block h) (fun e => by obtain ⟨o2, q2, q3⟩ := (hr k e.symm).2; rw [h] at q2; cases q2; rw [ho] at q3; cases q3)).trans h), h3⟩)
      ?assign ?body ?done
    case assign =>
      rintro y pre x V K hVs hI hK
      unfold encEdge
      gi_wp2
      have hn := hI.z.size
      have hbV : Below V.heap.size V (V.alloc (.cells (edgCells x.1) 129)) := (Below.refl _ V).alloc (Nat.le_refl _) _
      exact hK _ _ ((KeepsOthers.alloc _ _).from _) (KpE.of_below hbV hn) (by
        have g := hI.later hbV
        obtain ⟨n, m, h1, h2⟩ := hI.mp
        exact ⟨V.heap.size, hVs, heap_new _ _ _ rfl, rfl, g.z, g.h, g.b, n, m, h1.below hbV h1.lt, h2.below hbV, fun s hs k hk => ((h2.row s hs).lt k hk).2⟩)
    case body =>
      rintro y pre x a' V ⟨Bx, hBx, bX, rfl, hz1, hh1, hb2, nm, m, hmi, hrows, hlx⟩ hlen
      have hI : BuX w (wS.heap.size + 2) (w1.heap.size + 1) w1.heap.size (w1.heap.size + 1 + 1) (.slice fa fs.length fc) (.slice oa os.length oc) (valsE pre) V := ⟨hz1, hh1, hb2, nm, m, hmi, hrows⟩
      dsimp only
      obtain ⟨e, he⟩ : ∃ e, e = x.1 := ⟨_, rfl⟩
      have hem : e ∈ edgesL fs := by rw [he]; exact x.2
      rw [← he] at bX ⊢
      obtain ⟨hea, heb⟩ := edge_small hok'.out hem
      have hsE : SmS e.s := ⟨hea, heb⟩
      have hes := ends_small hsE
      obtain ⟨kl, hkl⟩ := side_key (endsS e.s) hes.1 hes.2
      have hrow0 := hrows.row _ hes
      have hfew := edges_few hok'.out
      have hlenL : (atEnds (valsE pre) (endsS e.s)).length ≤ 100000 := by
        have h1 := List.length_filter_le (fun y => decide (endsS y.s = endsS e.s)) (valsE pre)
        have h2 : (valsE pre).length = pre.length := List.length_map ..
        unfold atEnds
        omega
      obtain ⟨es, hes2⟩ : ∃ s, s = endsS e.s := ⟨_, rfl⟩
      obtain ⟨vv, hvv⟩ : ∃ v, v = atKey m (endsS e.s) := ⟨_, rfl⟩
      rw [← hvv] at hrow0
      have c47 : Hid (∀ V, Calls Tryd.prog 47 #[.agg (sdCells e.s)] V fun e' w' => e' = .returned (.agg (sdCells es)) ∧ Below V.heap.size V w') := fun V => by rw [hes2]; exact ends_any e.s V
      have hTr : BtX (w1.heap.size + 1 + 1) (w1.heap.size + 1) w1.heap.size Bx nm (.slice fa fs.length fc) (.slice oa os.length oc) m e V.drew := ⟨hI.b, hI.h, bX, hmi⟩
      have hrx : Hid (∀ r, vv.ownBlock = some r → r ≠ w1.heap.size + 1 + 1 ∧ r ≠ w1.heap.size + 1 ∧ r ≠ w1.heap.size ∧ r ≠ Bx) := fun r hr => by
        have q1 := (hrow0.lt r hr).1
        have q2 := hlx _ hes r (by rw [← hvv]; exact hr)
        omega
      have hlk : Hid (∀ V', BtX (w1.heap.size + 1 + 1) (w1.heap.size + 1) w1.heap.size Bx nm (.slice fa fs.length fc) (.slice oa os.length oc) m e V' → (Instr.lookup 154 (.map (some w1.heap.size)) (.agg (sdCells es)) false).run Tryd.prog V' = .ok vv V') := fun V' h => by
        have := h.mp.lookup side_keyed Tryd.underlying154 (Tryd.zeroValue157 V') hkl false
        rw [hvv, hes2]
        simpa [atKey] using this
      have hcl : Hid (∀ V', BtX (w1.heap.size + 1 + 1) (w1.heap.size + 1) w1.heap.size Bx nm (.slice fa fs.length fc) (.slice oa os.length oc) m e V' → V'.cell? ⟨w1.heap.size + 1 + 1, 0, none⟩ = some (.pointer (some ⟨w1.heap.size + 1, 0, none⟩)) ∧ V'.cell? ⟨w1.heap.size + 1, 2, none⟩ = some (.map (some w1.heap.size)) ∧ (V'.cell? ⟨Bx, 0, none⟩ = some (.int .i64 e.face) ∧ V'.cell? ⟨Bx, 1, none⟩ = some (.int .i64 e.number) ∧ V'.cell? ⟨Bx, 2, none⟩ = some (.int .i64 e.s.a.x) ∧ V'.cell? ⟨Bx, 3, none⟩ = some (.int .i64 e.s.a.y) ∧ V'.cell? ⟨Bx, 4, none⟩ = some (.int .i64 e.s.b.x) ∧ V'.cell? ⟨Bx, 5, none⟩ = some (.int .i64 e.s.b.y))) := fun V' h =>
        ⟨cells1 h.b, (cells3 h.h).2.2, cells6 h.x⟩
      have hrow : Hid (∀ V', Below V.heap.size V V' → V'.ownsRow (wS.heap.size + 2) 129 6 vv (atEnds (valsE pre) (endsS e.s)).length ((atEnds (valsE pre) (endsS e.s)).flatMap encEdg)) := fun V' h => ownsRow_same hrow0 (fun k hk => h.block k (hrow0.lt k hk).2)
      have hmx : Hid (∀ V', Below V.heap.size V V' → MapIs V' Tryd.prog 100 w1.heap.size nm m) := fun V' h => hmi.below h hmi.lt
      have hBV := hI.z.size
      have lBX := lt_block bX
      have hbase : wS.heap.size + 2 ≤ V.heap.size := by omega
      rw [← hes2] at hkl
      have hfin : Hid (∀ (V1 w1' w2' : World) (v' : Value) (n2 : Nat), Below V.heap.size V V1 → w1'.ownsRow (wS.heap.size + 2) 129 6 v' ((atEnds (valsE pre) (endsS e.s)).length + 1) ((atEnds (valsE pre) (endsS e.s)).flatMap encEdg ++ encEdg e) → V1.grownBy w1' vv.ownBlock → (∀ k, v'.ownBlock = some k → vv.ownBlock = some k ∨ V1.heap.size ≤ k) → MapIs w2' Tryd.prog 100 w1.heap.size n2 (updM m (.agg (sdCells es)) v') → w1'.grownBy w2' (some w1.heap.size) →
          KeepsFrom wS.heap.size V w2' ∧ KpE (wS.heap.size + 2) w.heap.size V w2' ∧ BuX w (wS.heap.size + 2) (w1.heap.size + 1) w1.heap.size (w1.heap.size + 1 + 1) (.slice fa fs.length fc) (.slice oa os.length oc) (valsE (pre ++ [x])) w2') := fun V1 w1' w2' v' n2 hS h1 h2 h3 h4 h5 => by
        rw [hvv] at h2 h3
        rw [hes2] at h4
        obtain ⟨r1, r2, r3⟩ := rows_step (n₀ := w.heap.size) (B := wS.heap.size) hrows hmi hsE (by omega) (by omega) (by omega) hS h1 h2 h3 h4 h5
        refine ⟨r3, r2, ⟨hI.z.trans r2.b, r2.t _ _ _ _ (by simp) hI.h, r2.t _ _ _ _ (by simp) hI.b, n2, _, h4, ?_⟩⟩
        have : valsE (pre ++ [x]) = valsE pre ++ [e] := by rw [he]; simp [valsE]
        rw [this]
        exact r1
      replace he := Lib.hid he
      replace hes2 := Lib.hid hes2
      replace hvv := Lib.hid hvv
      replace hrow0 := Lib.hid hrow0
      gi_wp2
      have hSc : Below V.heap.size V V.drew := (Below.refl _ _).drew
      refine wpIn_region_tree (BtX (w1.heap.size + 1 + 1) (w1.heap.size + 1) w1.heap.size Bx nm (.slice fa fs.length fc) (.slice oa os.length oc) m e) (.read 0 (.pure 1 (.pure 2 (.read 3 (.pure 4 (.read 5 (.read 7 (.pure 8 (.pure 9 (.read 10 (.pure 11 (.read 12 (.read 15 (.two 6 (.two 13 (.read 14 (.one 16 (.one 17 (.one 18 .done)))) 16 (.one 13 (.read 14 (.one 17 (.one 18 .done))))) 16 (.one 6 (.one 13 (.read 14 (.one 17 (.one 18 .done))))))))))))))))))) [18] (by kernel_rfl) (by kernel_rfl) (by kernel_rfl) hTr ?_
      refine wpTreeIn_take (v := ?_) rfl (by rfl) ?_ (fun _ => by rfl) (fun _ _ _ h => h) ?_
      rotate_left
      focus (intro w' hSw; obtain ⟨k0, k1, k2, k3, k4, k5, k6, k7⟩ := hcl.out _ hSw; clear hSw; (try simp only [List.getElem_toArray, List.getElem_cons_zero, List.getElem_cons_succ]); go_simp; try with_reducible rfl)
      (try simp only [List.getElem_toArray, List.getElem_cons_zero, List.getElem_cons_succ, Act.put, List.setIfInBounds_toArray, List.set_cons_zero, List.set_cons_succ])
      refine wpTreeIn_pure (v := ?_) rfl (by rfl) ?_ (fun _ => by rfl) (fun _ _ _ h => h) ?_
      rotate_left
      focus (intro w'; (try simp only [List.getElem_toArray, List.getElem_cons_zero, List.getElem_cons_succ]); go_simp; try with_reducible rfl)
      (try simp only [List.getElem_toArray, List.getElem_cons_zero, List.getElem_cons_succ, Act.put, List.setIfInBounds_toArray, List.set_cons_zero, List.set_cons_succ])
      refine wpTreeIn_pure (v := ?_) rfl (by rfl) ?_ (fun _ => by rfl) (fun _ _ _ h => h) ?_
      rotate_left
      focus (intro w'; (try simp only [List.getElem_toArray, List.getElem_cons_zero, List.getElem_cons_succ]); go_simp; try with_reducible rfl)
      (try simp only [List.getElem_toArray, List.getElem_cons_zero, List.getElem_cons_succ, Act.put, List.setIfInBounds_toArray, List.set_cons_zero, List.set_cons_succ])
      refine wpTreeIn_take (v := ?_) rfl (by rfl) ?_ (fun _ => by rfl) (fun _ _ _ h => h) ?_
      rotate_left
      focus (intro w' hSw; obtain ⟨k0, k1, k2, k3, k4, k5, k6, k7⟩ := hcl.out _ hSw; clear hSw; (try simp only [List.getElem_toArray, List.getElem_cons_zero, List.getElem_cons_succ]); go_simp; try with_reducible rfl)
      (try simp only [List.getElem_toArray, List.getElem_cons_zero, List.getElem_cons_succ, Act.put, List.setIfInBounds_toArray, List.set_cons_zero, List.set_cons_succ])
      refine wpTreeIn_pure (v := ?_) rfl (by rfl) ?_ (fun _ => by rfl) (fun _ _ _ h => h) ?_
      rotate_left
      focus (intro w'; (try simp only [List.getElem_toArray, List.getElem_cons_zero, List.getElem_cons_succ]); go_simp; try with_reducible rfl)
      (try simp only [List.getElem_toArray, List.getElem_cons_zero, List.getElem_cons_succ, Act.put, List.setIfInBounds_toArray, List.set_cons_zero, List.set_cons_succ])
      refine wpTreeIn_take (v := ?_) rfl (by rfl) ?_ (fun _ => by rfl) (fun _ _ _ h => h) ?_
      rotate_left
      focus (intro w' hSw; obtain ⟨k0, k1, k2, k3, k4, k5, k6, k7⟩ := hcl.out _ hSw; clear hSw; (try simp only [List.getElem_toArray, List.getElem_cons_zero, List.getElem_cons_succ]); go_simp; try with_reducible rfl)
      (try simp only [List.getElem_toArray, List.getElem_cons_zero, List.getElem_cons_succ, Act.put, List.setIfInBounds_toArray, List.set_cons_zero, List.set_cons_succ])
      refine wpTreeIn_take (v := ?_) rfl (by rfl) ?_ (fun _ => by rfl) (fun _ _ _ h => h) ?_
      rotate_left
      focus (intro w' hSw; obtain ⟨k0, k1, k2, k3, k4, k5, k6, k7⟩ := hcl.out _ hSw; clear hSw; (try simp only [List.getElem_toArray, List.getElem_cons_zero, List.getElem_cons_succ]); go_simp; try with_reducible rfl)
      (try simp only [List.getElem_toArray, List.getElem_cons_zero, List.getElem_cons_succ, Act.put, List.setIfInBounds_toArray, List.set_cons_zero, List.set_cons_succ])
      refine wpTreeIn_pure (v := ?_) rfl (by rfl) ?_ (fun _ => by rfl) (fun _ _ _ h => h) ?_
      rotate_left
      focus (intro w'; (try simp only [List.getElem_toArray, List.getElem_cons_zero, List.getElem_cons_succ]); go_simp; try with_reducible rfl)
      (try simp only [List.getElem_toArray, List.getElem_cons_zero, List.getElem_cons_succ, Act.put, List.setIfInBounds_toArray, List.set_cons_zero, List.set_cons_succ])
      refine wpTreeIn_pure (v := ?_) rfl (by rfl) ?_ (fun _ => by rfl) (fun _ _ _ h => h) ?_
      rotate_left
      focus (intro w'; (try simp only [List.getElem_toArray, List.getElem_cons_zero, List.getElem_cons_succ]); go_simp; try with_reducible rfl)
      (try simp only [List.getElem_toArray, List.getElem_cons_zero, List.getElem_cons_succ, Act.put, List.setIfInBounds_toArray, List.set_cons_zero, List.set_cons_succ])
      refine wpTreeIn_take (v := ?_) rfl (by rfl) ?_ (fun _ => by rfl) (fun _ _ _ h => h) ?_
      rotate_left
      focus (intro w' hSw; obtain ⟨k0, k1, k2, k3, k4, k5, k6, k7⟩ := hcl.out _ hSw; clear hSw; (try simp only [List.getElem_toArray, List.getElem_cons_zero, List.getElem_cons_succ]); go_simp; try with_reducible rfl)
      (try simp only [List.getElem_toArray, List.getElem_cons_zero, List.getElem_cons_succ, Act.put, List.setIfInBounds_toArray, List.set_cons_zero, List.set_cons_succ])
      refine wpTreeIn_pure (v := ?_) rfl (by rfl) ?_ (fun _ => by rfl) (fun _ _ _ h => h) ?_
      rotate_left
      focus (intro w'; (try simp only [List.getElem_toArray, List.getElem_cons_zero, List.getElem_cons_succ]); go_simp; try with_reducible rfl)
      (try simp only [List.getElem_toArray, List.getElem_cons_zero, List.getElem_cons_succ, Act.put, List.setIfInBounds_toArray, List.set_cons_zero, List.set_cons_succ])
      refine wpTreeIn_take (v := ?_) rfl (by rfl) ?_ (fun _ => by rfl) (fun _ _ _ h => h) ?_
      rotate_left
      focus (intro w' hSw; obtain ⟨k0, k1, k2, k3, k4, k5, k6, k7⟩ := hcl.out _ hSw; clear hSw; (try simp only [List.getElem_toArray, List.getElem_cons_zero, List.getElem_cons_succ]); go_simp; try with_reducible rfl)
      (try simp only [List.getElem_toArray, List.getElem_cons_zero, List.getElem_cons_succ, Act.put, List.setIfInBounds_toArray, List.set_cons_zero, List.set_cons_succ])
      refine wpTreeIn_take (v := ?_) rfl (by rfl) ?_ (fun _ => by rfl) (fun _ _ _ h => h) ?_
      rotate_left
      focus (intro w' hSw; obtain ⟨k0, k1, k2, k3, k4, k5, k6, k7⟩ := hcl.out _ hSw; clear hSw; (try simp only [List.getElem_toArray, List.getElem_cons_zero, List.getElem_cons_succ]); go_simp; try with_reducible rfl)
      (try simp only [List.getElem_toArray, List.getElem_cons_zero, List.getElem_cons_succ, Act.put, List.setIfInBounds_toArray, List.set_cons_zero, List.set_cons_succ])
      refine wpTreeIn_two rfl (by rfl) rfl (by rfl) ?_ ?_
      · (try simp only [List.getElem_toArray, List.getElem_cons_zero, List.getElem_cons_succ])
        go_simp
        refine ⟨trivial, ?_⟩
        gi_at_call 47
        refine (CallsIn.inRound y (callsIn_wide.2 (c47.out _))).mono ?_
        rintro e2 wc1 ⟨rfl, hbc⟩
        dsimp only
        have hSc := hSc.trans (hbc.mono hSc.size)
        have hTr := hTr.later hbc
        refine ⟨by intros; exact hTr, ?_⟩
        (try simp only [List.getElem_toArray, List.getElem_cons_zero, List.getElem_cons_succ, Act.put, List.setIfInBounds_toArray, List.set_cons_zero, List.set_cons_succ])
        refine wpTreeIn_two rfl (by rfl) rfl (by rfl) ?_ ?_
        · (try simp only [List.getElem_toArray, List.getElem_cons_zero, List.getElem_cons_succ])
          go_simp
          refine ⟨trivial, ?_⟩
          gi_at_call 47
          refine (CallsIn.inRound y (callsIn_wide.2 (c47.out _))).mono ?_
          rintro e2 wc2 ⟨rfl, hbc⟩
          dsimp only
          have hSc := hSc.trans (hbc.mono hSc.size)
          have hTr := hTr.later hbc
          refine ⟨by intros; exact hTr, ?_⟩
          (try simp only [List.getElem_toArray, List.getElem_cons_zero, List.getElem_cons_succ, Act.put, List.setIfInBounds_toArray, List.set_cons_zero, List.set_cons_succ])
          refine wpTreeIn_take (v := vv) rfl (by rfl) ?_ (fun _ => by rfl) (fun _ _ _ h => h) ?_
          focus (intro w' hSw; have hl := hlk.out _ hSw; clear hSw; (try simp only [List.getElem_toArray, List.getElem_cons_zero, List.getElem_cons_succ]); go_simp <;> (simp [execOp, hl, Result.andThen]))
          (try simp only [List.getElem_toArray, List.getElem_cons_zero, List.getElem_cons_succ, Act.put, List.setIfInBounds_toArray, List.set_cons_zero, List.set_cons_succ])
          refine wpTreeIn_do rfl (by rfl) ?_
          (try simp only [List.getElem_toArray, List.getElem_cons_zero, List.getElem_cons_succ])
          go_simp
          obtain ⟨wb3, hwb3⟩ : ∃ z, z = wc2.alloc (.cells (edgCells e) 129) := ⟨_, rfl⟩
          rw [← hwb3]
          have hbk : wb3.heap[wc2.heap.size]? = some (.cells (edgCells e) 129 (0, 0)) := by rw [hwb3]; exact heap_new _ _ _ rfl
          have hbq : Below wc2.heap.size wc2 wb3 := by rw [hwb3]; exact (Below.refl _ wc2).alloc (Nat.le_refl _) _
          have hSc : Below V.heap.size V wb3 := hSc.trans (hbq.mono hSc.size)
          have hTr := hTr.later hbq
          replace hwb3 := Lib.hid hwb3
          refine ⟨by intros; exact hTr, ?_⟩
          (try simp only [List.getElem_toArray, List.getElem_cons_zero, List.getElem_cons_succ, Act.put, List.setIfInBounds_toArray, List.set_cons_zero, List.set_cons_succ])
          refine wpTreeIn_do rfl (by rfl) ?_
          (try simp only [List.getElem_toArray, List.getElem_cons_zero, List.getElem_cons_succ])
          refine opIn_app _ _ _ 157 rfl (wS.heap.size + 2) 129 6 48 Tryd.underlying157 infoE rfl (by decide) vv _ _ rfl (hrow.out _ hSc) ⟨wc2.heap.size, 0, none⟩ 1 1 (encEdg e) rfl rfl (row_news hbk) (row_one e) (by simp only [maxLen]; omega) (by omega) (Nat.le_trans hbase hSc.size) ?_
          intro v' wx hrow' hg' hnear'
          refine ⟨by intros; exact hTr.grown hg' hrx.out, ?_⟩
          (try simp only [List.getElem_toArray, List.getElem_cons_zero, List.getElem_cons_succ, Act.put, List.setIfInBounds_toArray, List.set_cons_zero, List.set_cons_succ])
          refine wpTreeIn_do rfl (by rfl) ?_
          (try simp only [List.getElem_toArray, List.getElem_cons_zero, List.getElem_cons_succ])
          refine opIn_store _ _ _ _ 154 rfl 100 157 side_keyed Tryd.underlying154 w1.heap.size nm m rfl ((hmx.out _ hSc).kept hg' (fun q => by have h9 := ((hrow.out _ hSc).lt _ q.symm).1; omega)) (.agg (sdCells es)) v' kl rfl rfl hkl (updM m (.agg (sdCells es)) v') (updM_same _ _ _) (fun _ _ _ h => updM_other h) ?_
          intro wy hmap' hg2'
          refine ⟨fun h => absurd (by simp) h, ?_⟩
          (try simp only [List.getElem_toArray, List.getElem_cons_zero, List.getElem_cons_succ, Act.put, List.setIfInBounds_toArray, List.set_cons_zero, List.set_cons_succ])
          (try unfold wpTreeIn)
          exact hfin.out _ _ _ _ _ hSc hrow' hg' hnear' hmap' hg2'
        · (try simp only [List.getElem_toArray, List.getElem_cons_zero, List.getElem_cons_succ])
          go_simp
          obtain ⟨wb4, hwb4⟩ : ∃ z, z = wc1.alloc (.cells (edgCells e) 129) := ⟨_, rfl⟩
          rw [← hwb4]
          have hbk : wb4.heap[wc1.heap.size]? = some (.cells (edgCells e) 129 (0, 0)) := by rw [hwb4]; exact heap_new _ _ _ rfl
          have hbq : Below wc1.heap.size wc1 wb4 := by rw [hwb4]; exact (Below.refl _ wc1).alloc (Nat.le_refl _) _
          have hSc : Below V.heap.size V wb4 := hSc.trans (hbq.mono hSc.size)
          have hTr := hTr.later hbq
          replace hwb4 := Lib.hid hwb4
          refine ⟨by intros; exact hTr, ?_⟩
          (try simp only [List.getElem_toArray, List.getElem_cons_zero, List.getElem_cons_succ, Act.put, List.setIfInBounds_toArray, List.set_cons_zero, List.set_cons_succ])
          refine wpTreeIn_do rfl (by rfl) ?_
          (try simp only [List.getElem_toArray, List.getElem_cons_zero, List.getElem_cons_succ])
          go_simp
          refine ⟨trivial, ?_⟩
          gi_at_call 47
          refine (CallsIn.inRound y (callsIn_wide.2 (c47.out _))).mono ?_
          rintro e2 wc5 ⟨rfl, hbc⟩
          dsimp only
          have hSc := hSc.trans (hbc.mono hSc.size)
          have hTr := hTr.later hbc
          have hbk := (hbc.block _ (lt_block hbk)).trans hbk
          refine ⟨by intros; exact hTr, ?_⟩
          (try simp only [List.getElem_toArray, List.getElem_cons_zero, List.getElem_cons_succ, Act.put, List.setIfInBounds_toArray, List.set_cons_zero, List.set_cons_succ])
          refine wpTreeIn_take (v := vv) rfl (by rfl) ?_ (fun _ => by rfl) (fun _ _ _ h => h) ?_
          focus (intro w' hSw; have hl := hlk.out _ hSw; clear hSw; (try simp only [List.getElem_toArray, List.getElem_cons_zero, List.getElem_cons_succ]); go_simp <;> (simp [execOp, hl, Result.andThen]))
          (try simp only [List.getElem_toArray, List.getElem_cons_zero, List.getElem_cons_succ, Act.put, List.setIfInBounds_toArray, List.set_cons_zero, List.set_cons_succ])
          refine wpTreeIn_do rfl (by rfl) ?_
          (try simp only [List.getElem_toArray, List.getElem_cons_zero, List.getElem_cons_succ])
          refine opIn_app _ _ _ 157 rfl (wS.heap.size + 2) 129 6 48 Tryd.underlying157 infoE rfl (by decide) vv _ _ rfl (hrow.out _ hSc) ⟨wc1.heap.size, 0, none⟩ 1 1 (encEdg e) rfl rfl (row_news hbk) (row_one e) (by simp only [maxLen]; omega) (by omega) (Nat.le_trans hbase hSc.size) ?_
          intro v' wx hrow' hg' hnear'
          refine ⟨by intros; exact hTr.grown hg' hrx.out, ?_⟩
          (try simp only [List.getElem_toArray, List.getElem_cons_zero, List.getElem_cons_succ, Act.put, List.setIfInBounds_toArray, List.set_cons_zero, List.set_cons_succ])
          refine wpTreeIn_do rfl (by rfl) ?_
          (try simp only [List.getElem_toArray, List.getElem_cons_zero, List.getElem_cons_succ])
          refine opIn_store _ _ _ _ 154 rfl 100 157 side_keyed Tryd.underlying154 w1.heap.size nm m rfl ((hmx.out _ hSc).kept hg' (fun q => by have h9 := ((hrow.out _ hSc).lt _ q.symm).1; omega)) (.agg (sdCells es)) v' kl rfl rfl hkl (updM m (.agg (sdCells es)) v') (updM_same _ _ _) (fun _ _ _ h => updM_other h) ?_
          intro wy hmap' hg2'
          refine ⟨fun h => absurd (by simp) h, ?_⟩
          (try simp only [List.getElem_toArray, List.getElem_cons_zero, List.getElem_cons_succ, Act.put, List.setIfInBounds_toArray, List.set_cons_zero, List.set_cons_succ])
          (try unfold wpTreeIn)
          exact hfin.out _ _ _ _ _ hSc hrow' hg' hnear' hmap' hg2'
      · (try simp only [List.getElem_toArray, List.getElem_cons_zero, List.getElem_cons_succ])
        go_simp
        obtain ⟨wb6, hwb6⟩ : ∃ z, z = (V.alloc (.cells (edgCells e) 129)).drew := ⟨_, rfl⟩
        rw [← hwb6]
        have hbk : wb6.heap[V.heap.size]? = some (.cells (edgCells e) 129 (0, 0)) := by rw [hwb6]; exact heap_new _ _ _ rfl
        have hbq : Below V.heap.size V.drew wb6 := by rw [hwb6]; exact (show Below V.heap.size V.drew (V.drew.alloc (.cells (edgCells e) 129)) from (Below.refl _ V.drew).alloc (Nat.le_refl _) _)
        have hSc : Below V.heap.size V wb6 := hSc.trans (hbq.mono hSc.size)
        have hTr := hTr.later hbq
        replace hwb6 := Lib.hid hwb6
        refine ⟨by intros; exact hTr, ?_⟩
        (try simp only [List.getElem_toArray, List.getElem_cons_zero, List.getElem_cons_succ, Act.put, List.setIfInBounds_toArray, List.set_cons_zero, List.set_cons_succ])
        refine wpTreeIn_do rfl (by rfl) ?_
        (try simp only [List.getElem_toArray, List.getElem_cons_zero, List.getElem_cons_succ])
        go_simp
        refine ⟨trivial, ?_⟩
        gi_at_call 47
        refine (CallsIn.inRound y (callsIn_wide.2 (c47.out _))).mono ?_
        rintro e2 wc7 ⟨rfl, hbc⟩
        dsimp only
        have hSc := hSc.trans (hbc.mono hSc.size)
        have hTr := hTr.later hbc
        have hbk := (hbc.block _ (lt_block hbk)).trans hbk
        refine ⟨by intros; exact hTr, ?_⟩
        (try simp only [List.getElem_toArray, List.getElem_cons_zero, List.getElem_cons_succ, Act.put, List.setIfInBounds_toArray, List.set_cons_zero, List.set_cons_succ])
        refine wpTreeIn_do rfl (by rfl) ?_
        (try simp only [List.getElem_toArray, List.getElem_cons_zero, List.getElem_cons_succ])
        go_simp
        refine ⟨trivial, ?_⟩
        gi_at_call 47
        refine (CallsIn.inRound y (callsIn_wide.2 (c47.out _))).mono ?_
        rintro e2 wc8 ⟨rfl, hbc⟩
        dsimp only
        have hSc := hSc.trans (hbc.mono hSc.size)
        have hTr := hTr.later hbc
        have hbk := (hbc.block _ (lt_block hbk)).trans hbk
        refine ⟨by intros; exact hTr, ?_⟩
        (try simp only [List.getElem_toArray, List.getElem_cons_zero, List.getElem_cons_succ, Act.put, List.setIfInBounds_toArray, List.set_cons_zero, List.set_cons_succ])
        refine wpTreeIn_take (v := vv) rfl (by rfl) ?_ (fun _ => by rfl) (fun _ _ _ h => h) ?_
        focus (intro w' hSw; have hl := hlk.out _ hSw; clear hSw; (try simp only [List.getElem_toArray, List.getElem_cons_zero, List.getElem_cons_succ]); go_simp <;> (simp [execOp, hl, Result.andThen]))
        (try simp only [List.getElem_toArray, List.getElem_cons_zero, List.getElem_cons_succ, Act.put, List.setIfInBounds_toArray, List.set_cons_zero, List.set_cons_succ])
        refine wpTreeIn_do rfl (by rfl) ?_
        (try simp only [List.getElem_toArray, List.getElem_cons_zero, List.getElem_cons_succ])
        refine opIn_app _ _ _ 157 rfl (wS.heap.size + 2) 129 6 48 Tryd.underlying157 infoE rfl (by decide) vv _ _ rfl (hrow.out _ hSc) ⟨V.heap.size, 0, none⟩ 1 1 (encEdg e) rfl rfl (row_news hbk) (row_one e) (by simp only [maxLen]; omega) (by omega) (Nat.le_trans hbase hSc.size) ?_
        intro v' wx hrow' hg' hnear'
        refine ⟨by intros; exact hTr.grown hg' hrx.out, ?_⟩
        (try simp only [List.getElem_toArray, List.getElem_cons_zero, List.getElem_cons_succ, Act.put, List.setIfInBounds_toArray, List.set_cons_zero, List.set_cons_succ])
        refine wpTreeIn_do rfl (by rfl) ?_
        (try simp only [List.getElem_toArray, List.getElem_cons_zero, List.getElem_cons_succ])
        refine opIn_store _ _ _ _ 154 rfl 100 157 side_keyed Tryd.underlying154 w1.heap.size nm m rfl ((hmx.out _ hSc).kept hg' (fun q => by have h9 := ((hrow.out _ hSc).lt _ q.symm).1; omega)) (.agg (sdCells es)) v' kl rfl rfl hkl (updM m (.agg (sdCells es)) v') (updM_same _ _ _) (fun _ _ _ h => updM_other h) ?_
        intro wy hmap' hg2'
        refine ⟨fun h => absurd (by simp) h, ?_⟩
        (try simp only [List.getElem_toArray, List.getElem_cons_zero, List.getElem_cons_succ, Act.put, List.setIfInBounds_toArray, List.set_cons_zero, List.set_cons_succ])
        (try unfold wpTreeIn)
        exact hfin.out _ _ _ _ _ hSc hrow' hg' hnear' hmap' hg2'
    case done =>
      rintro D xs V hD hxs hI hK
      have hBk := cells1 hI.b
      have hG := hI.grown (grownBy_putObj' V D (.deferred none)) hBS.size (by omega) (fun r e => by cases e; exact ⟨hD, _, hK, rfl⟩)
      rw [show valsE xs = edgesL fs from hxs] at hG
      obtain ⟨n, m, h1, h2⟩ := hG.mp
      have hbes := Lib.hid (h2.bes h1 (edges_few hok'.out))
      replace hG := Lib.hid hG
      gi_wp2
      refine ⟨by simp, .inl ⟨_, _, rfl, run_takeDeferred hK, ?_⟩⟩
      refine ⟨.tuple #[.pointer (some ⟨w1.heap.size + 1, 0, none⟩), .int .i64 0], ?_, hG.out.z, w1.heap.size + 1, rfl, w1.heap.size, hG.out.h, hbes.out⟩
      simp [results, Tryd.f50, go_sem]
  · replace hz := Lib.hid hz
    have hz' := hz.out
    gi_wp2_with (refine ⟨trivial, ?_⟩; gi_at_call 15; refine (callsIn_wide.2 (c15.out _ hB0.out)).mono ?_; rintro e w1 ⟨rfl, hb1⟩)
    refine ⟨.tuple #[.pointer none, .int .i64 ce], ?_, hB0.out.trans (hb1.mono hB0.out.size), .inl ⟨hz.out, rfl⟩⟩
    simp [results, Tryd.f50, go_sem]
end Go.Proofs.YthojfhdenfhjfaaDoor
end
