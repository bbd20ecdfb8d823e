/-
  The house's map: its keys; what a house in memory is; what the map answers. No walk. How high a face is above a point, and what is told of it: high, above, rises, level: walked. PRINTED by genR18.py. How a face rises from an edge: rises: walked. PRINTED by genR19.py.
-/
import Derived.Test.YthojfhdenfhjfaaDoorRa02
import Derived.Test.YthojfhdenfhjfaaDoorRa09
import Derived.Test.YthojfhdenfhjfaaDoorRa10
import Derived.DeepKeys4
set_option linter.all false
set_option linter.unusedVariables false
set_option linter.unusedSimpArgs false
section
namespace Go.Proofs.YthojfhdenfhjfaaDoor
open Go.RowKit Go.Lib Go.Shelf
open Go.Maps (Keyed)

theorem side_keyed : Keyed Tryd.prog 100 := Keyed.of_law (deep_law_laid (by kernel_rfl) (m := 3) (by decide) (of_decide_eq_true (by kernel_rfl)) (by kernel_rfl) (by kernel_rfl))
theorem side_type : Tryd.prog.keyType 100 = true := by kernel_rfl
theorem side_cells : Tryd.prog.cellsOf 100 = 4 := by kernel_rfl
theorem at_cells : Tryd.prog.cellsOf 39 = 2 := by kernel_rfl
theorem int_cells : Tryd.prog.cellsOf 3 = 1 := by kernel_rfl
theorem wf_small {n : Int} (h : -1000000 ≤ n ∧ n ≤ 1000000) : (Lit.int .i64 n).wf = true := by
  have : IntKind.i64.min = -9223372036854775808 := by decide
  simp [Lit.wf]
  omega
theorem some_types : ∃ m, Tryd.prog.types.size = m + 2 := ⟨Tryd.prog.types.size - 2, by
  have : decide (2 ≤ Tryd.prog.types.size) = true := by kernel_rfl
  have := of_decide_eq_true this
  omega⟩
theorem at_lits (m : Nat) (x y : Int) (hx : -1000000 ≤ x ∧ x ≤ 1000000) (hy : -1000000 ≤ y ∧ y ≤ 1000000) : Tryd.prog.keyLits (m + 2) 39 [.int .i64 x, .int .i64 y] = some [.int .i64 x, .int .i64 y] := by
  have e3 : ∀ z : Int, (-1000000 ≤ z ∧ z ≤ 1000000) → Tryd.prog.keyLits (m + 1) 3 [.int .i64 z] = some [.int .i64 z] := fun z hz => by
    unfold Program.keyLits
    rw [Tryd.underlying3]
    simp only [wf_small hz]
    simp
  unfold Program.keyLits
  rw [Tryd.underlying39]
  simp [at_cells, int_cells, e3 x hx, e3 y hy]
theorem side_key (s : Sd) (ha : SmP s.a 1000000) (hb : SmP s.b 1000000) : ∃ l, keyOf Tryd.prog 100 (.agg (sdCells s)) = some l := by
  obtain ⟨m, hm⟩ := some_types
  have hf : Value.formed Tryd.prog 100 (.agg (sdCells s)) = true := by unfold Value.formed; rw [Tryd.underlying100]; simp [side_cells]
  have hl : Tryd.prog.keyLits (m + 3) 100 [.int .i64 s.a.x, .int .i64 s.a.y, .int .i64 s.b.x, .int .i64 s.b.y] = some [.int .i64 s.a.x, .int .i64 s.a.y, .int .i64 s.b.x, .int .i64 s.b.y] := by
    unfold Program.keyLits
    rw [Tryd.underlying100]
    obtain ⟨a1, a2, a3, a4⟩ := ha
    obtain ⟨b1, b2, b3, b4⟩ := hb
    simp [side_cells, at_cells, at_lits m s.a.x s.a.y ⟨a1, a2⟩ ⟨a3, a4⟩, at_lits m s.b.x s.b.y ⟨b1, b2⟩ ⟨b3, b4⟩]
  unfold keyOf
  rw [Tryd.underlying100]
  simp only [side_type, hf, Bool.and_self, if_true, hm]
  have e : (Value.agg (sdCells s)).cells.toList = [.int .i64 s.a.x, .int .i64 s.a.y, .int .i64 s.b.x, .int .i64 s.b.y] := rfl
  rw [e, show m + 2 + 1 = m + 3 from rfl, hl]
  exact ⟨_, rfl⟩
theorem sd_inj {s t : Sd} (h : Value.agg (sdCells s) = .agg (sdCells t)) : s = t := by
  obtain ⟨⟨ax, ay⟩, ⟨bx, b2⟩⟩ := s
  obtain ⟨⟨cx, cy⟩, ⟨dx, d2⟩⟩ := t
  simp at h
  obtain ⟨h1, h2, h3, h4⟩ := h
  subst h1; subst h2; subst h3; subst h4; rfl

/-- What the map answers: the edges with these two ends, in a row of their own. -/
def EdRow (W : World) (v : Value) (L : List Edg) : Prop := ∃ A c, v = .slice A L.length c ∧ FlatRow encEdg 6 W A L
def atEnds (L : List Edg) (s : Sd) : List Edg := L.filter fun x => decide (endsS x.s = s)
/-- The map at block mb answers with the edges of L. -/
def BesX (W : World) (mb : Nat) (L : List Edg) : Prop := ∃ n m, MapIs W Tryd.prog 100 mb n m ∧ ∀ s, SmP s.a 1000000 → SmP s.b 1000000 → EdRow W ((m (.agg (sdCells s))).getD (.slice none 0 0)) (atEnds L s)
theorem BesX.later {W W' : World} {mb : Nat} {L : List Edg} (h : BesX W mb L) (hb : Below W.heap.size W W') : BesX W' mb L := by
  obtain ⟨n, m, h1, h2⟩ := h
  exact ⟨n, m, h1.below hb h1.lt, fun s ha hb' => by obtain ⟨A, c, e, hr⟩ := h2 s ha hb'; exact ⟨A, c, e, hr.below hb⟩⟩
theorem other_at (fs : List Face) (e : Edg) : otherE fs e = (atEnds (edgesL fs) (endsS e.s)).find? fun x => decide (x.face ≠ e.face) := by
  unfold otherE atEnds
  rw [List.find?_filter]
  congr 1
  funext x
  simp


end Go.Proofs.YthojfhdenfhjfaaDoor
end
section
namespace Go.Proofs.YthojfhdenfhjfaaDoor
open Go.RowKit Go.Lib Go.Shelf

/-- The table of the four sides, in the variable falls. -/
structure FaX (W : World) : Prop where
  s1 : W.cell? ⟨0, 4, none⟩ = some (.int .i64 0) ∧ W.cell? ⟨0, 5, none⟩ = some (.int .i64 1) ∧ W.cell? ⟨0, 6, none⟩ = some (.func (.func 143) #[] #[]) ∧ W.cell? ⟨0, 7, none⟩ = some (.func (.func 144) #[] #[])
  s2 : W.cell? ⟨0, 8, none⟩ = some (.int .i64 (-1)) ∧ W.cell? ⟨0, 9, none⟩ = some (.int .i64 0) ∧ W.cell? ⟨0, 10, none⟩ = some (.func (.func 145) #[] #[]) ∧ W.cell? ⟨0, 11, none⟩ = some (.func (.func 146) #[] #[])
  s3 : W.cell? ⟨0, 12, none⟩ = some (.int .i64 0) ∧ W.cell? ⟨0, 13, none⟩ = some (.int .i64 (-1)) ∧ W.cell? ⟨0, 14, none⟩ = some (.func (.func 147) #[] #[]) ∧ W.cell? ⟨0, 15, none⟩ = some (.func (.func 148) #[] #[])
  s4 : W.cell? ⟨0, 16, none⟩ = some (.int .i64 1) ∧ W.cell? ⟨0, 17, none⟩ = some (.int .i64 0) ∧ W.cell? ⟨0, 18, none⟩ = some (.func (.func 149) #[] #[]) ∧ W.cell? ⟨0, 19, none⟩ = some (.func (.func 150) #[] #[])
theorem FaX.lt {W : World} (h : FaX W) : 0 < W.heap.size := World.block_lt_of_cell? _ _ h.s1.1
theorem FaX.later {W W' : World} (h : FaX W) (hb : Below W.heap.size W W') : FaX W' := by
  have k : ∀ j, W'.cell? ⟨0, j, none⟩ = W.cell? ⟨0, j, none⟩ := fun j => hb.cell (p := ⟨0, j, none⟩) h.lt
  refine ⟨?_, ?_, ?_, ?_⟩ <;> simp only [k]
  · exact h.s1
  · exact h.s2
  · exact h.s3
  · exact h.s4
/-- A house in memory, its map left out. -/
structure HsX (W : World) (hb mb : Nat) (fs : List Face) (fa : Option Addr) (fc : Nat) (v1 : Value) : Prop where
  c : W.heap[hb]? = some (.cells #[.slice fa fs.length fc, v1, .map (some mb)] 156 (0, 0))
  fx : RdFaces W fa fs
  fl : FaX W
theorem HsX.later {W W' : World} {hb mb : Nat} {fs : List Face} {fa : Option Addr} {fc : Nat} {v1 : Value} (h : HsX W hb mb fs fa fc v1) (hb' : Below W.heap.size W W') : HsX W' hb mb fs fa fc v1 :=
  ⟨(hb'.block _ (lt_block h.c)).trans h.c, h.fx.below hb', h.fl.later hb'⟩
theorem cells3 {w : World} {b : Nat} {x y z : Value} {t : TypeId} (h : w.heap[b]? = some (.cells #[x, y, z] t (0, 0))) : w.cell? ⟨b, 0, none⟩ = some x ∧ w.cell? ⟨b, 1, none⟩ = some y ∧ w.cell? ⟨b, 2, none⟩ = some z := by
  refine ⟨?_, ?_, ?_⟩ <;> simp [World.cell?, h]
theorem far1_any (p : Pnt) (f : Int) (w : World) (hp : SmP p 1000000) (hf : 0 ≤ f ∧ f ≤ 10000) : Calls Tryd.prog 143 #[pntVal p, .int .i64 f] w fun e w' => e = .returned (.int .i64 (farV 1 p f)) ∧ Below w.heap.size w w' := by
  have he : Hid (farV 1 p f = p.y - f) := rfl
  obtain ⟨h1, h2, h3, h4⟩ := hp
  have hw : IntKind.i64.wrap (p.y - f) = p.y - f := IntWalk.i64_in _ (by omega)
  have hb : Hid (Below w.heap.size w (w.alloc (.cells #[.int .i64 p.x, .int .i64 p.y] 39))) := (Below.refl _ w).alloc (Nat.le_refl _) _
  go_enter Tryd.func143, Tryd.ntmps143
  go_wp2
  go_ret
  exact ⟨by rw [he.out]; rfl, hb.out⟩
theorem far2_any (p : Pnt) (f : Int) (w : World) (hp : SmP p 1000000) (hf : 0 ≤ f ∧ f ≤ 10000) : Calls Tryd.prog 145 #[pntVal p, .int .i64 f] w fun e w' => e = .returned (.int .i64 (farV 2 p f)) ∧ Below w.heap.size w w' := by
  have he : Hid (farV 2 p f = f - p.x) := rfl
  obtain ⟨h1, h2, h3, h4⟩ := hp
  have hw : IntKind.i64.wrap (f - p.x) = f - p.x := IntWalk.i64_in _ (by omega)
  have hb : Hid (Below w.heap.size w (w.alloc (.cells #[.int .i64 p.x, .int .i64 p.y] 39))) := (Below.refl _ w).alloc (Nat.le_refl _) _
  go_enter Tryd.func145, Tryd.ntmps145
  go_wp2
  go_ret
  exact ⟨by rw [he.out]; rfl, hb.out⟩
theorem far3_any (p : Pnt) (f : Int) (w : World) (hp : SmP p 1000000) (hf : 0 ≤ f ∧ f ≤ 10000) : Calls Tryd.prog 147 #[pntVal p, .int .i64 f] w fun e w' => e = .returned (.int .i64 (farV 3 p f)) ∧ Below w.heap.size w w' := by
  have he : Hid (farV 3 p f = f - p.y) := rfl
  obtain ⟨h1, h2, h3, h4⟩ := hp
  have hw : IntKind.i64.wrap (f - p.y) = f - p.y := IntWalk.i64_in _ (by omega)
  have hb : Hid (Below w.heap.size w (w.alloc (.cells #[.int .i64 p.x, .int .i64 p.y] 39))) := (Below.refl _ w).alloc (Nat.le_refl _) _
  go_enter Tryd.func147, Tryd.ntmps147
  go_wp2
  go_ret
  exact ⟨by rw [he.out]; rfl, hb.out⟩
theorem far4_any (p : Pnt) (f : Int) (w : World) (hp : SmP p 1000000) (hf : 0 ≤ f ∧ f ≤ 10000) : Calls Tryd.prog 149 #[pntVal p, .int .i64 f] w fun e w' => e = .returned (.int .i64 (farV 4 p f)) ∧ Below w.heap.size w w' := by
  have he : Hid (farV 4 p f = p.x - f) := rfl
  obtain ⟨h1, h2, h3, h4⟩ := hp
  have hw : IntKind.i64.wrap (p.x - f) = p.x - f := IntWalk.i64_in _ (by omega)
  have hb : Hid (Below w.heap.size w (w.alloc (.cells #[.int .i64 p.x, .int .i64 p.y] 39))) := (Below.refl _ w).alloc (Nat.le_refl _) _
  go_enter Tryd.func149, Tryd.ntmps149
  go_wp2
  go_ret
  exact ⟨by rw [he.out]; rfl, hb.out⟩
theorem mul_in {a b n m : Int} (h1 : 0 ≤ a ∧ a ≤ n) (h2 : -m ≤ b ∧ b ≤ m) : -(n * m) ≤ a * b ∧ a * b ≤ n * m := by
  have h0 : 0 ≤ m := by omega
  have e1 : a * b ≤ a * m := Int.mul_le_mul_of_nonneg_left h2.2 h1.1
  have e2 : a * m ≤ n * m := Int.mul_le_mul_of_nonneg_right h1.2 h0
  have e3 : a * (-m) ≤ a * b := Int.mul_le_mul_of_nonneg_left h2.1 h1.1
  rw [Int.mul_neg] at e3
  omega
theorem far_in {k : Int} {p : Pnt} {f : Int} (hp : SmP p 1000000) (hf : 0 ≤ f ∧ f ≤ 10000) : -1010000 ≤ farV k p f ∧ farV k p f ≤ 1010000 := by
  obtain ⟨h1, h2, h3, h4⟩ := hp
  unfold farV
  repeat' split
  all_goals omega
theorem high_in {f : Face} {p : Pnt} (hf : argB f = true) (hp : SmP p 1000000) : -200000000 ≤ highF f p ∧ highF f p ≤ 200000000 := by
  obtain ⟨a1, a2, a3, a4, a5, a6, a7, a8, a9, a10⟩ := arg_run hf
  have e1 := mul_in (a := f.base) (b := f.run) (n := 10000) (m := 100) ⟨a5, a6⟩ (by omega)
  have e2 := mul_in (a := f.rise) (b := farV f.side p f.foot) (n := 100) (m := 1010000) (by omega) (far_in hp ⟨a7, a8⟩)
  unfold highF
  omega
set_option maxHeartbeats 2000000 in
set_option maxRecDepth 100000 in
theorem high_any (hb mb : Nat) (fs : List Face) (fa : Option Addr) (fc : Nat) (v1 : Value) (i : Nat) (p : Pnt) (w : World) (hH : HsX w hb mb fs fa fc v1) (hi : i < fs.length) (hg : argB (fs.getD i default) = true) (hp : SmP p 1000000) :
    Calls Tryd.prog 53 #[.pointer (some ⟨hb, 0, none⟩), .int .i64 (i : Int), pntVal p] w fun e w' => e = .returned (.int .i64 (highF (fs.getD i default) p)) ∧ Below w.heap.size w w' := by
  obtain ⟨f, hf⟩ : ∃ f, f = fs.getD i default := ⟨_, rfl⟩
  rw [← hf] at hg ⊢
  obtain ⟨a1, a2, a3, a4, a5, a6, a7, a8, a9, a10⟩ := arg_run hg
  have hE : Hid (highF f p = f.base * f.run + f.rise * farV f.side p f.foot) := rfl
  obtain ⟨W1, hW1⟩ : ∃ W1, W1 = w.alloc (.cells #[.int .i64 p.x, .int .i64 p.y] 39) := ⟨_, rfl⟩
  obtain ⟨W2, hW2⟩ : ∃ W2, W2 = W1.alloc (.cells (fCells f) 45) := ⟨_, rfl⟩
  have hb1 : Below w.heap.size w W1 := by rw [hW1]; exact (Below.refl _ w).alloc (Nat.le_refl _) _
  have hs1 : W1.heap.size = w.heap.size + 1 := by rw [hW1]; exact World.size_alloc _ _
  have hb2 : Hid (Below W1.heap.size W1 W2) := by rw [hW2]; exact (Below.refl _ W1).alloc (Nat.le_refl _) _
  have hp2 : W2.heap[w.heap.size]? = some (.cells #[.int .i64 p.x, .int .i64 p.y] 39 (0, 0)) := by rw [hW2]; exact heap_old _ _ _ _ (by rw [hW1]; exact heap_new _ _ _ rfl)
  have hf2 : W2.heap[w.heap.size + 1]? = some (.cells (fCells f) 45 (0, 0)) := by rw [hW2]; exact heap_new _ _ _ hs1.symm
  have hH1 := hH.later hb1
  have hbw : Hid (Below w.heap.size w W2) := hb1.trans (hb2.out.mono hb1.size)
  have hH2 := hH.later hbw.out
  obtain ⟨ad, hA, p0, p1, p2, p3, p4, p5, p6⟩ := hH1.fx.at7 hi
  rw [← hf] at p0 p1 p2 p3 p4 p5 p6
  obtain ⟨z0, z1, z2⟩ := cells3 hH1.c
  subst hA
  have hfa := far_in (k := f.side) (f := f.foot) hp ⟨a7, a8⟩
  have e1 := mul_in (a := f.base) (b := f.run) (n := 10000) (m := 100) ⟨a5, a6⟩ (by omega)
  have e2 := mul_in (a := f.rise) (b := farV f.side p f.foot) (n := 100) (m := 1010000) (by omega) hfa
  obtain ⟨fv, hfv⟩ : ∃ v, v = farV f.side p f.foot := ⟨_, rfl⟩
  rw [← hfv] at hE e2
  have w1 : IntKind.i64.wrap (f.base * f.run) = f.base * f.run := IntWalk.i64_in _ (by omega)
  have w2 : IntKind.i64.wrap (f.rise * fv) = f.rise * fv := IntWalk.i64_in _ (by omega)
  have w3 : IntKind.i64.wrap (f.base * f.run + f.rise * fv) = f.base * f.run + f.rise * fv := IntWalk.i64_in _ (by omega)
  have hcl : Hid (∀ V, Below W2.heap.size W2 V → (V.cell? ⟨w.heap.size, 0, none⟩ = some (.int .i64 p.x) ∧ V.cell? ⟨w.heap.size, 1, none⟩ = some (.int .i64 p.y)) ∧ (V.cell? ⟨w.heap.size + 1, 0, none⟩ = some (.string f.name) ∧ V.cell? ⟨w.heap.size + 1, 1, none⟩ = some (.int .i64 f.side) ∧ V.cell? ⟨w.heap.size + 1, 2, none⟩ = some (.int .i64 f.foot) ∧ V.cell? ⟨w.heap.size + 1, 3, none⟩ = some (.int .i64 f.base) ∧ V.cell? ⟨w.heap.size + 1, 4, none⟩ = some (.int .i64 f.rise) ∧ V.cell? ⟨w.heap.size + 1, 5, none⟩ = some (.int .i64 f.run) ∧ V.cell? ⟨w.heap.size + 1, 6, none⟩ = some (.slice f.ca f.corners.length f.cc)) ∧ FaX V) := fun V h => ⟨cells2 ((h.block _ (lt_block hp2)).trans hp2), cells7 ((h.block _ (lt_block hf2)).trans hf2), hH2.fl.later h⟩
  have hs1' := Lib.hid hs1
  clear hs1 e1 e2 hfa
  replace hf := Lib.hid hf
  replace hH1 := Lib.hid hH1
  replace hH2 := Lib.hid hH2
  rw [hW1] at z0 p0 p1 p2 p3 p4 p5 p6
  have hside : f.side = 1 ∨ f.side = 2 ∨ f.side = 3 ∨ f.side = 4 := by omega
  rcases hside with hk | hk | hk | hk
  · have hcall : Hid (∀ V, Calls Tryd.prog 143 #[pntVal p, .int .i64 f.foot] V fun e w' => e = .returned (.int .i64 fv) ∧ Below V.heap.size V w') := fun V => by rw [hfv, hk]; exact far1_any p f.foot V hp ⟨a7, a8⟩
    replace hfv := Lib.hid hfv
    replace hk := Lib.hid hk
    go_enter Tryd.func53, Tryd.ntmps53
    go_wp2
    rw [← hW1, ← hW2]
    replace hW1 := Lib.hid hW1
    replace hW2 := Lib.hid hW2
    clear z0 z1 z2 p0 p1 p2 p3 p4 p5 p6
    have hSd : Below W2.heap.size W2 W2.drew := (Below.refl _ _).drew
    refine wp_region_tree (fun V => Below W2.heap.size W2 V) (.pure 0 (.read 1 (.pure 2 (.read 3 (.pure 4 (.pure 5 (.read 6 (.pure 7 (.read 8 (.pure 9 (.pure 10 (.read 11 (.read 12 (.pure 13 (.read 14 (.one 15 (.pure 16 (.pure 17 (.pure 18 .done))))))))))))))))))) [] (by kernel_rfl) (by kernel_rfl) hSd ?_
    refine wpTree_pure (v := ?_) rfl (by rfl) ?_ (fun _ _ _ h => h) ?_
    rotate_left
    focus (intro w'; (try simp only [List.getElem_toArray, List.getElem_cons_zero, List.getElem_cons_succ]); go_simp; try with_reducible rfl)
    (try simp only [List.getElem_toArray, List.getElem_cons_zero, List.getElem_cons_succ, Act.put, List.setIfInBounds_toArray, List.set_cons_zero, List.set_cons_succ])
    refine wpTree_take (v := ?_) rfl (by rfl) ?_ (fun _ _ _ h => h) ?_
    rotate_left
    focus (intro w' hSw; obtain ⟨⟨x0, x1⟩, ⟨y0, y1, y2, y3, y4, y5, y6⟩, hF⟩ := hcl.out _ hSw; rw [hk.out] at y1; obtain ⟨v0, v1, v2, v3⟩ := hF.s1; clear hF; clear hSw; (try simp only [List.getElem_toArray, List.getElem_cons_zero, List.getElem_cons_succ]); go_simp; try with_reducible rfl)
    (try simp only [List.getElem_toArray, List.getElem_cons_zero, List.getElem_cons_succ, Act.put, List.setIfInBounds_toArray, List.set_cons_zero, List.set_cons_succ])
    refine wpTree_pure (v := ?_) rfl (by rfl) ?_ (fun _ _ _ h => h) ?_
    rotate_left
    focus (intro w'; (try simp only [List.getElem_toArray, List.getElem_cons_zero, List.getElem_cons_succ]); go_simp; try with_reducible rfl)
    (try simp only [List.getElem_toArray, List.getElem_cons_zero, List.getElem_cons_succ, Act.put, List.setIfInBounds_toArray, List.set_cons_zero, List.set_cons_succ])
    refine wpTree_take (v := ?_) rfl (by rfl) ?_ (fun _ _ _ h => h) ?_
    rotate_left
    focus (intro w' hSw; obtain ⟨⟨x0, x1⟩, ⟨y0, y1, y2, y3, y4, y5, y6⟩, hF⟩ := hcl.out _ hSw; rw [hk.out] at y1; obtain ⟨v0, v1, v2, v3⟩ := hF.s1; clear hF; clear hSw; (try simp only [List.getElem_toArray, List.getElem_cons_zero, List.getElem_cons_succ]); go_simp; try with_reducible rfl)
    (try simp only [List.getElem_toArray, List.getElem_cons_zero, List.getElem_cons_succ, Act.put, List.setIfInBounds_toArray, List.set_cons_zero, List.set_cons_succ])
    refine wpTree_pure (v := ?_) rfl (by rfl) ?_ (fun _ _ _ h => h) ?_
    rotate_left
    focus (intro w'; (try simp only [List.getElem_toArray, List.getElem_cons_zero, List.getElem_cons_succ]); go_simp; try with_reducible rfl)
    (try simp only [List.getElem_toArray, List.getElem_cons_zero, List.getElem_cons_succ, Act.put, List.setIfInBounds_toArray, List.set_cons_zero, List.set_cons_succ])
    refine wpTree_pure (v := ?_) rfl (by rfl) ?_ (fun _ _ _ h => h) ?_
    rotate_left
    focus (intro w'; (try simp only [List.getElem_toArray, List.getElem_cons_zero, List.getElem_cons_succ]); go_simp; try with_reducible rfl)
    (try simp only [List.getElem_toArray, List.getElem_cons_zero, List.getElem_cons_succ, Act.put, List.setIfInBounds_toArray, List.set_cons_zero, List.set_cons_succ])
    refine wpTree_take (v := ?_) rfl (by rfl) ?_ (fun _ _ _ h => h) ?_
    rotate_left
    focus (intro w' hSw; obtain ⟨⟨x0, x1⟩, ⟨y0, y1, y2, y3, y4, y5, y6⟩, hF⟩ := hcl.out _ hSw; rw [hk.out] at y1; obtain ⟨v0, v1, v2, v3⟩ := hF.s1; clear hF; clear hSw; (try simp only [List.getElem_toArray, List.getElem_cons_zero, List.getElem_cons_succ]); go_simp; try with_reducible rfl)
    (try simp only [List.getElem_toArray, List.getElem_cons_zero, List.getElem_cons_succ, Act.put, List.setIfInBounds_toArray, List.set_cons_zero, List.set_cons_succ])
    refine wpTree_pure (v := ?_) rfl (by rfl) ?_ (fun _ _ _ h => h) ?_
    rotate_left
    focus (intro w'; (try simp only [List.getElem_toArray, List.getElem_cons_zero, List.getElem_cons_succ]); go_simp; try with_reducible rfl)
    (try simp only [List.getElem_toArray, List.getElem_cons_zero, List.getElem_cons_succ, Act.put, List.setIfInBounds_toArray, List.set_cons_zero, List.set_cons_succ])
    refine wpTree_take (v := ?_) rfl (by rfl) ?_ (fun _ _ _ h => h) ?_
    rotate_left
    focus (intro w' hSw; obtain ⟨⟨x0, x1⟩, ⟨y0, y1, y2, y3, y4, y5, y6⟩, hF⟩ := hcl.out _ hSw; rw [hk.out] at y1; obtain ⟨v0, v1, v2, v3⟩ := hF.s1; clear hF; clear hSw; (try simp only [List.getElem_toArray, List.getElem_cons_zero, List.getElem_cons_succ]); go_simp; try with_reducible rfl)
    (try simp only [List.getElem_toArray, List.getElem_cons_zero, List.getElem_cons_succ, Act.put, List.setIfInBounds_toArray, List.set_cons_zero, List.set_cons_succ])
    refine wpTree_pure (v := ?_) rfl (by rfl) ?_ (fun _ _ _ h => h) ?_
    rotate_left
    focus (intro w'; (try simp only [List.getElem_toArray, List.getElem_cons_zero, List.getElem_cons_succ]); go_simp; try with_reducible rfl)
    (try simp only [List.getElem_toArray, List.getElem_cons_zero, List.getElem_cons_succ, Act.put, List.setIfInBounds_toArray, List.set_cons_zero, List.set_cons_succ])
    refine wpTree_pure (v := ?_) rfl (by rfl) ?_ (fun _ _ _ h => h) ?_
    rotate_left
    focus (intro w'; (try simp only [List.getElem_toArray, List.getElem_cons_zero, List.getElem_cons_succ]); go_simp; try with_reducible rfl)
    (try simp only [List.getElem_toArray, List.getElem_cons_zero, List.getElem_cons_succ, Act.put, List.setIfInBounds_toArray, List.set_cons_zero, List.set_cons_succ])
    refine wpTree_take (v := ?_) rfl (by rfl) ?_ (fun _ _ _ h => h) ?_
    rotate_left
    focus (intro w' hSw; obtain ⟨⟨x0, x1⟩, ⟨y0, y1, y2, y3, y4, y5, y6⟩, hF⟩ := hcl.out _ hSw; rw [hk.out] at y1; obtain ⟨v0, v1, v2, v3⟩ := hF.s1; clear hF; clear hSw; (try simp only [List.getElem_toArray, List.getElem_cons_zero, List.getElem_cons_succ]); go_simp; try with_reducible rfl)
    (try simp only [List.getElem_toArray, List.getElem_cons_zero, List.getElem_cons_succ, Act.put, List.setIfInBounds_toArray, List.set_cons_zero, List.set_cons_succ])
    refine wpTree_take (v := ?_) rfl (by rfl) ?_ (fun _ _ _ h => h) ?_
    rotate_left
    focus (intro w' hSw; obtain ⟨⟨x0, x1⟩, ⟨y0, y1, y2, y3, y4, y5, y6⟩, hF⟩ := hcl.out _ hSw; rw [hk.out] at y1; obtain ⟨v0, v1, v2, v3⟩ := hF.s1; clear hF; clear hSw; (try simp only [List.getElem_toArray, List.getElem_cons_zero, List.getElem_cons_succ]); go_simp; try with_reducible rfl)
    (try simp only [List.getElem_toArray, List.getElem_cons_zero, List.getElem_cons_succ, Act.put, List.setIfInBounds_toArray, List.set_cons_zero, List.set_cons_succ])
    refine wpTree_pure (v := ?_) rfl (by rfl) ?_ (fun _ _ _ h => h) ?_
    rotate_left
    focus (intro w'; (try simp only [List.getElem_toArray, List.getElem_cons_zero, List.getElem_cons_succ]); go_simp; try with_reducible rfl)
    (try simp only [List.getElem_toArray, List.getElem_cons_zero, List.getElem_cons_succ, Act.put, List.setIfInBounds_toArray, List.set_cons_zero, List.set_cons_succ])
    refine wpTree_take (v := ?_) rfl (by rfl) ?_ (fun _ _ _ h => h) ?_
    rotate_left
    focus (intro w' hSw; obtain ⟨⟨x0, x1⟩, ⟨y0, y1, y2, y3, y4, y5, y6⟩, hF⟩ := hcl.out _ hSw; rw [hk.out] at y1; obtain ⟨v0, v1, v2, v3⟩ := hF.s1; clear hF; clear hSw; (try simp only [List.getElem_toArray, List.getElem_cons_zero, List.getElem_cons_succ]); go_simp; try with_reducible rfl)
    (try simp only [List.getElem_toArray, List.getElem_cons_zero, List.getElem_cons_succ, Act.put, List.setIfInBounds_toArray, List.set_cons_zero, List.set_cons_succ])
    refine wpTree_do rfl (by rfl) ?_
    (try simp only [List.getElem_toArray, List.getElem_cons_zero, List.getElem_cons_succ])
    go_simp
    go_at_call 143
    (with_reducible refine (hcall.out _).mono ?_)
    rintro e wc ⟨rfl, hbc⟩
    have hSc := hSd.trans (hbc.mono hSd.size)
    refine ⟨by intros; first | exact hSc | simpa using hSc, ?_⟩
    (try simp only [List.getElem_toArray, List.getElem_cons_zero, List.getElem_cons_succ, Act.put, List.setIfInBounds_toArray, List.set_cons_zero, List.set_cons_succ])
    refine wpTree_pure (v := ?_) rfl (by rfl) ?_ (fun _ _ _ h => h) ?_
    rotate_left
    focus (intro w'; (try simp only [List.getElem_toArray, List.getElem_cons_zero, List.getElem_cons_succ]); go_simp; try with_reducible rfl)
    (try simp only [List.getElem_toArray, List.getElem_cons_zero, List.getElem_cons_succ, Act.put, List.setIfInBounds_toArray, List.set_cons_zero, List.set_cons_succ])
    refine wpTree_pure (v := ?_) rfl (by rfl) ?_ (fun _ _ _ h => h) ?_
    rotate_left
    focus (intro w'; (try simp only [List.getElem_toArray, List.getElem_cons_zero, List.getElem_cons_succ]); go_simp; try with_reducible rfl)
    (try simp only [List.getElem_toArray, List.getElem_cons_zero, List.getElem_cons_succ, Act.put, List.setIfInBounds_toArray, List.set_cons_zero, List.set_cons_succ])
    refine wpTree_pure (v := ?_) rfl (by rfl) ?_ (fun _ _ _ h => h) ?_
    rotate_left
    focus (intro w'; (try simp only [List.getElem_toArray, List.getElem_cons_zero, List.getElem_cons_succ]); go_simp; try with_reducible rfl)
    (try simp only [List.getElem_toArray, List.getElem_cons_zero, List.getElem_cons_succ, Act.put, List.setIfInBounds_toArray, List.set_cons_zero, List.set_cons_succ])
    (try unfold wpTree)
    go_wp2
    go_ret
    exact ⟨by rw [hE.out]; rfl, hbw.out.trans (hSc.mono hbw.out.size)⟩
  · have hcall : Hid (∀ V, Calls Tryd.prog 145 #[pntVal p, .int .i64 f.foot] V fun e w' => e = .returned (.int .i64 fv) ∧ Below V.heap.size V w') := fun V => by rw [hfv, hk]; exact far2_any p f.foot V hp ⟨a7, a8⟩
    replace hfv := Lib.hid hfv
    replace hk := Lib.hid hk
    go_enter Tryd.func53, Tryd.ntmps53
    go_wp2
    rw [← hW1, ← hW2]
    replace hW1 := Lib.hid hW1
    replace hW2 := Lib.hid hW2
    clear z0 z1 z2 p0 p1 p2 p3 p4 p5 p6
    have hSd : Below W2.heap.size W2 W2.drew := (Below.refl _ _).drew
    refine wp_region_tree (fun V => Below W2.heap.size W2 V) (.pure 0 (.read 1 (.pure 2 (.read 3 (.pure 4 (.pure 5 (.read 6 (.pure 7 (.read 8 (.pure 9 (.pure 10 (.read 11 (.read 12 (.pure 13 (.read 14 (.one 15 (.pure 16 (.pure 17 (.pure 18 .done))))))))))))))))))) [] (by kernel_rfl) (by kernel_rfl) hSd ?_
    refine wpTree_pure (v := ?_) rfl (by rfl) ?_ (fun _ _ _ h => h) ?_
    rotate_left
    focus (intro w'; (try simp only [List.getElem_toArray, List.getElem_cons_zero, List.getElem_cons_succ]); go_simp; try with_reducible rfl)
    (try simp only [List.getElem_toArray, List.getElem_cons_zero, List.getElem_cons_succ, Act.put, List.setIfInBounds_toArray, List.set_cons_zero, List.set_cons_succ])
    refine wpTree_take (v := ?_) rfl (by rfl) ?_ (fun _ _ _ h => h) ?_
    rotate_left
    focus (intro w' hSw; obtain ⟨⟨x0, x1⟩, ⟨y0, y1, y2, y3, y4, y5, y6⟩, hF⟩ := hcl.out _ hSw; rw [hk.out] at y1; obtain ⟨v0, v1, v2, v3⟩ := hF.s2; clear hF; clear hSw; (try simp only [List.getElem_toArray, List.getElem_cons_zero, List.getElem_cons_succ]); go_simp; try with_reducible rfl)
    (try simp only [List.getElem_toArray, List.getElem_cons_zero, List.getElem_cons_succ, Act.put, List.setIfInBounds_toArray, List.set_cons_zero, List.set_cons_succ])
    refine wpTree_pure (v := ?_) rfl (by rfl) ?_ (fun _ _ _ h => h) ?_
    rotate_left
    focus (intro w'; (try simp only [List.getElem_toArray, List.getElem_cons_zero, List.getElem_cons_succ]); go_simp; try with_reducible rfl)
    (try simp only [List.getElem_toArray, List.getElem_cons_zero, List.getElem_cons_succ, Act.put, List.setIfInBounds_toArray, List.set_cons_zero, List.set_cons_succ])
    refine wpTree_take (v := ?_) rfl (by rfl) ?_ (fun _ _ _ h => h) ?_
    rotate_left
    focus (intro w' hSw; obtain ⟨⟨x0, x1⟩, ⟨y0, y1, y2, y3, y4, y5, y6⟩, hF⟩ := hcl.out _ hSw; rw [hk.out] at y1; obtain ⟨v0, v1, v2, v3⟩ := hF.s2; clear hF; clear hSw; (try simp only [List.getElem_toArray, List.getElem_cons_zero, List.getElem_cons_succ]); go_simp; try with_reducible rfl)
    (try simp only [List.getElem_toArray, List.getElem_cons_zero, List.getElem_cons_succ, Act.put, List.setIfInBounds_toArray, List.set_cons_zero, List.set_cons_succ])
    refine wpTree_pure (v := ?_) rfl (by rfl) ?_ (fun _ _ _ h => h) ?_
    rotate_left
    focus (intro w'; (try simp only [List.getElem_toArray, List.getElem_cons_zero, List.getElem_cons_succ]); go_simp; try with_reducible rfl)
    (try simp only [List.getElem_toArray, List.getElem_cons_zero, List.getElem_cons_succ, Act.put, List.setIfInBounds_toArray, List.set_cons_zero, List.set_cons_succ])
    refine wpTree_pure (v := ?_) rfl (by rfl) ?_ (fun _ _ _ h => h) ?_
    rotate_left
    focus (intro w'; (try simp only [List.getElem_toArray, List.getElem_cons_zero, List.getElem_cons_succ]); go_simp; try with_reducible rfl)
    (try simp only [List.getElem_toArray, List.getElem_cons_zero, List.getElem_cons_succ, Act.put, List.setIfInBounds_toArray, List.set_cons_zero, List.set_cons_succ])
    refine wpTree_take (v := ?_) rfl (by rfl) ?_ (fun _ _ _ h => h) ?_
    rotate_left
    focus (intro w' hSw; obtain ⟨⟨x0, x1⟩, ⟨y0, y1, y2, y3, y4, y5, y6⟩, hF⟩ := hcl.out _ hSw; rw [hk.out] at y1; obtain ⟨v0, v1, v2, v3⟩ := hF.s2; clear hF; clear hSw; (try simp only [List.getElem_toArray, List.getElem_cons_zero, List.getElem_cons_succ]); go_simp; try with_reducible rfl)
    (try simp only [List.getElem_toArray, List.getElem_cons_zero, List.getElem_cons_succ, Act.put, List.setIfInBounds_toArray, List.set_cons_zero, List.set_cons_succ])
    refine wpTree_pure (v := ?_) rfl (by rfl) ?_ (fun _ _ _ h => h) ?_
    rotate_left
    focus (intro w'; (try simp only [List.getElem_toArray, List.getElem_cons_zero, List.getElem_cons_succ]); go_simp; try with_reducible rfl)
    (try simp only [List.getElem_toArray, List.getElem_cons_zero, List.getElem_cons_succ, Act.put, List.setIfInBounds_toArray, List.set_cons_zero, List.set_cons_succ])
    refine wpTree_take (v := ?_) rfl (by rfl) ?_ (fun _ _ _ h => h) ?_
    rotate_left
    focus (intro w' hSw; obtain ⟨⟨x0, x1⟩, ⟨y0, y1, y2, y3, y4, y5, y6⟩, hF⟩ := hcl.out _ hSw; rw [hk.out] at y1; obtain ⟨v0, v1, v2, v3⟩ := hF.s2; clear hF; clear hSw; (try simp only [List.getElem_toArray, List.getElem_cons_zero, List.getElem_cons_succ]); go_simp; try with_reducible rfl)
    (try simp only [List.getElem_toArray, List.getElem_cons_zero, List.getElem_cons_succ, Act.put, List.setIfInBounds_toArray, List.set_cons_zero, List.set_cons_succ])
    refine wpTree_pure (v := ?_) rfl (by rfl) ?_ (fun _ _ _ h => h) ?_
    rotate_left
    focus (intro w'; (try simp only [List.getElem_toArray, List.getElem_cons_zero, List.getElem_cons_succ]); go_simp; try with_reducible rfl)
    (try simp only [List.getElem_toArray, List.getElem_cons_zero, List.getElem_cons_succ, Act.put, List.setIfInBounds_toArray, List.set_cons_zero, List.set_cons_succ])
    refine wpTree_pure (v := ?_) rfl (by rfl) ?_ (fun _ _ _ h => h) ?_
    rotate_left
    focus (intro w'; (try simp only [List.getElem_toArray, List.getElem_cons_zero, List.getElem_cons_succ]); go_simp; try with_reducible rfl)
    (try simp only [List.getElem_toArray, List.getElem_cons_zero, List.getElem_cons_succ, Act.put, List.setIfInBounds_toArray, List.set_cons_zero, List.set_cons_succ])
    refine wpTree_take (v := ?_) rfl (by rfl) ?_ (fun _ _ _ h => h) ?_
    rotate_left
    focus (intro w' hSw; obtain ⟨⟨x0, x1⟩, ⟨y0, y1, y2, y3, y4, y5, y6⟩, hF⟩ := hcl.out _ hSw; rw [hk.out] at y1; obtain ⟨v0, v1, v2, v3⟩ := hF.s2; clear hF; clear hSw; (try simp only [List.getElem_toArray, List.getElem_cons_zero, List.getElem_cons_succ]); go_simp; try with_reducible rfl)
    (try simp only [List.getElem_toArray, List.getElem_cons_zero, List.getElem_cons_succ, Act.put, List.setIfInBounds_toArray, List.set_cons_zero, List.set_cons_succ])
    refine wpTree_take (v := ?_) rfl (by rfl) ?_ (fun _ _ _ h => h) ?_
    rotate_left
    focus (intro w' hSw; obtain ⟨⟨x0, x1⟩, ⟨y0, y1, y2, y3, y4, y5, y6⟩, hF⟩ := hcl.out _ hSw; rw [hk.out] at y1; obtain ⟨v0, v1, v2, v3⟩ := hF.s2; clear hF; clear hSw; (try simp only [List.getElem_toArray, List.getElem_cons_zero, List.getElem_cons_succ]); go_simp; try with_reducible rfl)
    (try simp only [List.getElem_toArray, List.getElem_cons_zero, List.getElem_cons_succ, Act.put, List.setIfInBounds_toArray, List.set_cons_zero, List.set_cons_succ])
    refine wpTree_pure (v := ?_) rfl (by rfl) ?_ (fun _ _ _ h => h) ?_
    rotate_left
    focus (intro w'; (try simp only [List.getElem_toArray, List.getElem_cons_zero, List.getElem_cons_succ]); go_simp; try with_reducible rfl)
    (try simp only [List.getElem_toArray, List.getElem_cons_zero, List.getElem_cons_succ, Act.put, List.setIfInBounds_toArray, List.set_cons_zero, List.set_cons_succ])
    refine wpTree_take (v := ?_) rfl (by rfl) ?_ (fun _ _ _ h => h) ?_
    rotate_left
    focus (intro w' hSw; obtain ⟨⟨x0, x1⟩, ⟨y0, y1, y2, y3, y4, y5, y6⟩, hF⟩ := hcl.out _ hSw; rw [hk.out] at y1; obtain ⟨v0, v1, v2, v3⟩ := hF.s2; clear hF; clear hSw; (try simp only [List.getElem_toArray, List.getElem_cons_zero, List.getElem_cons_succ]); go_simp; try with_reducible rfl)
    (try simp only [List.getElem_toArray, List.getElem_cons_zero, List.getElem_cons_succ, Act.put, List.setIfInBounds_toArray, List.set_cons_zero, List.set_cons_succ])
    refine wpTree_do rfl (by rfl) ?_
    (try simp only [List.getElem_toArray, List.getElem_cons_zero, List.getElem_cons_succ])
    go_simp
    go_at_call 145
    (with_reducible refine (hcall.out _).mono ?_)
    rintro e wc ⟨rfl, hbc⟩
    have hSc := hSd.trans (hbc.mono hSd.size)
    refine ⟨by intros; first | exact hSc | simpa using hSc, ?_⟩
    (try simp only [List.getElem_toArray, List.getElem_cons_zero, List.getElem_cons_succ, Act.put, List.setIfInBounds_toArray, List.set_cons_zero, List.set_cons_succ])
    refine wpTree_pure (v := ?_) rfl (by rfl) ?_ (fun _ _ _ h => h) ?_
    rotate_left
    focus (intro w'; (try simp only [List.getElem_toArray, List.getElem_cons_zero, List.getElem_cons_succ]); go_simp; try with_reducible rfl)
    (try simp only [List.getElem_toArray, List.getElem_cons_zero, List.getElem_cons_succ, Act.put, List.setIfInBounds_toArray, List.set_cons_zero, List.set_cons_succ])
    refine wpTree_pure (v := ?_) rfl (by rfl) ?_ (fun _ _ _ h => h) ?_
    rotate_left
    focus (intro w'; (try simp only [List.getElem_toArray, List.getElem_cons_zero, List.getElem_cons_succ]); go_simp; try with_reducible rfl)
    (try simp only [List.getElem_toArray, List.getElem_cons_zero, List.getElem_cons_succ, Act.put, List.setIfInBounds_toArray, List.set_cons_zero, List.set_cons_succ])
    refine wpTree_pure (v := ?_) rfl (by rfl) ?_ (fun _ _ _ h => h) ?_
    rotate_left
    focus (intro w'; (try simp only [List.getElem_toArray, List.getElem_cons_zero, List.getElem_cons_succ]); go_simp; try with_reducible rfl)
    (try simp only [List.getElem_toArray, List.getElem_cons_zero, List.getElem_cons_succ, Act.put, List.setIfInBounds_toArray, List.set_cons_zero, List.set_cons_succ])
    (try unfold wpTree)
    go_wp2
    go_ret
    exact ⟨by rw [hE.out]; rfl, hbw.out.trans (hSc.mono hbw.out.size)⟩
  · have hcall : Hid (∀ V, Calls Tryd.prog 147 #[pntVal p, .int .i64 f.foot] V fun e w' => e = .returned (.int .i64 fv) ∧ Below V.heap.size V w') := fun V => by rw [hfv, hk]; exact far3_any p f.foot V hp ⟨a7, a8⟩
    replace hfv := Lib.hid hfv
    replace hk := Lib.hid hk
    go_enter Tryd.func53, Tryd.ntmps53
    go_wp2
    rw [← hW1, ← hW2]
    replace hW1 := Lib.hid hW1
    replace hW2 := Lib.hid hW2
    clear z0 z1 z2 p0 p1 p2 p3 p4 p5 p6
    have hSd : Below W2.heap.size W2 W2.drew := (Below.refl _ _).drew
    refine wp_region_tree (fun V => Below W2.heap.size W2 V) (.pure 0 (.read 1 (.pure 2 (.read 3 (.pure 4 (.pure 5 (.read 6 (.pure 7 (.read 8 (.pure 9 (.pure 10 (.read 11 (.read 12 (.pure 13 (.read 14 (.one 15 (.pure 16 (.pure 17 (.pure 18 .done))))))))))))))))))) [] (by kernel_rfl) (by kernel_rfl) hSd ?_
    refine wpTree_pure (v := ?_) rfl (by rfl) ?_ (fun _ _ _ h => h) ?_
    rotate_left
    focus (intro w'; (try simp only [List.getElem_toArray, List.getElem_cons_zero, List.getElem_cons_succ]); go_simp; try with_reducible rfl)
    (try simp only [List.getElem_toArray, List.getElem_cons_zero, List.getElem_cons_succ, Act.put, List.setIfInBounds_toArray, List.set_cons_zero, List.set_cons_succ])
    refine wpTree_take (v := ?_) rfl (by rfl) ?_ (fun _ _ _ h => h) ?_
    rotate_left
    focus (intro w' hSw; obtain ⟨⟨x0, x1⟩, ⟨y0, y1, y2, y3, y4, y5, y6⟩, hF⟩ := hcl.out _ hSw; rw [hk.out] at y1; obtain ⟨v0, v1, v2, v3⟩ := hF.s3; clear hF; clear hSw; (try simp only [List.getElem_toArray, List.getElem_cons_zero, List.getElem_cons_succ]); go_simp; try with_reducible rfl)
    (try simp only [List.getElem_toArray, List.getElem_cons_zero, List.getElem_cons_succ, Act.put, List.setIfInBounds_toArray, List.set_cons_zero, List.set_cons_succ])
    refine wpTree_pure (v := ?_) rfl (by rfl) ?_ (fun _ _ _ h => h) ?_
    rotate_left
    focus (intro w'; (try simp only [List.getElem_toArray, List.getElem_cons_zero, List.getElem_cons_succ]); go_simp; try with_reducible rfl)
    (try simp only [List.getElem_toArray, List.getElem_cons_zero, List.getElem_cons_succ, Act.put, List.setIfInBounds_toArray, List.set_cons_zero, List.set_cons_succ])
    refine wpTree_take (v := ?_) rfl (by rfl) ?_ (fun _ _ _ h => h) ?_
    rotate_left
    focus (intro w' hSw; obtain ⟨⟨x0, x1⟩, ⟨y0, y1, y2, y3, y4, y5, y6⟩, hF⟩ := hcl.out _ hSw; rw [hk.out] at y1; obtain ⟨v0, v1, v2, v3⟩ := hF.s3; clear hF; clear hSw; (try simp only [List.getElem_toArray, List.getElem_cons_zero, List.getElem_cons_succ]); go_simp; try with_reducible rfl)
    (try simp only [List.getElem_toArray, List.getElem_cons_zero, List.getElem_cons_succ, Act.put, List.setIfInBounds_toArray, List.set_cons_zero, List.set_cons_succ])
    refine wpTree_pure (v := ?_) rfl (by rfl) ?_ (fun _ _ _ h => h) ?_
    rotate_left
    focus (intro w'; (try simp only [List.getElem_toArray, List.getElem_cons_zero, List.getElem_cons_succ]); go_simp; try with_reducible rfl)
    (try simp only [List.getElem_toArray, List.getElem_cons_zero, List.getElem_cons_succ, Act.put, List.setIfInBounds_toArray, List.set_cons_zero, List.set_cons_succ])
    refine wpTree_pure (v := ?_) rfl (by rfl) ?_ (fun _ _ _ h => h) ?_
    rotate_left
    focus (intro w'; (try simp only [List.getElem_toArray, List.getElem_cons_zero, List.getElem_cons_succ]); go_simp; try with_reducible rfl)
    (try simp only [List.getElem_toArray, List.getElem_cons_zero, List.getElem_cons_succ, Act.put, List.setIfInBounds_toArray, List.set_cons_zero, List.set_cons_succ])
    refine wpTree_take (v := ?_) rfl (by rfl) ?_ (fun _ _ _ h => h) ?_
    rotate_left
    focus (intro w' hSw; obtain ⟨⟨x0, x1⟩, ⟨y0, y1, y2, y3, y4, y5, y6⟩, hF⟩ := hcl.out _ hSw; rw [hk.out] at y1; obtain ⟨v0, v1, v2, v3⟩ := hF.s3; clear hF; clear hSw; (try simp only [List.getElem_toArray, List.getElem_cons_zero, List.getElem_cons_succ]); go_simp; try with_reducible rfl)
    (try simp only [List.getElem_toArray, List.getElem_cons_zero, List.getElem_cons_succ, Act.put, List.setIfInBounds_toArray, List.set_cons_zero, List.set_cons_succ])
    refine wpTree_pure (v := ?_) rfl (by rfl) ?_ (fun _ _ _ h => h) ?_
    rotate_left
    focus (intro w'; (try simp only [List.getElem_toArray, List.getElem_cons_zero, List.getElem_cons_succ]); go_simp; try with_reducible rfl)
    (try simp only [List.getElem_toArray, List.getElem_cons_zero, List.getElem_cons_succ, Act.put, List.setIfInBounds_toArray, List.set_cons_zero, List.set_cons_succ])
    refine wpTree_take (v := ?_) rfl (by rfl) ?_ (fun _ _ _ h => h) ?_
    rotate_left
    focus (intro w' hSw; obtain ⟨⟨x0, x1⟩, ⟨y0, y1, y2, y3, y4, y5, y6⟩, hF⟩ := hcl.out _ hSw; rw [hk.out] at y1; obtain ⟨v0, v1, v2, v3⟩ := hF.s3; clear hF; clear hSw; (try simp only [List.getElem_toArray, List.getElem_cons_zero, List.getElem_cons_succ]); go_simp; try with_reducible rfl)
    (try simp only [List.getElem_toArray, List.getElem_cons_zero, List.getElem_cons_succ, Act.put, List.setIfInBounds_toArray, List.set_cons_zero, List.set_cons_succ])
    refine wpTree_pure (v := ?_) rfl (by rfl) ?_ (fun _ _ _ h => h) ?_
    rotate_left
    focus (intro w'; (try simp only [List.getElem_toArray, List.getElem_cons_zero, List.getElem_cons_succ]); go_simp; try with_reducible rfl)
    (try simp only [List.getElem_toArray, List.getElem_cons_zero, List.getElem_cons_succ, Act.put, List.setIfInBounds_toArray, List.set_cons_zero, List.set_cons_succ])
    refine wpTree_pure (v := ?_) rfl (by rfl) ?_ (fun _ _ _ h => h) ?_
    rotate_left
    focus (intro w'; (try simp only [List.getElem_toArray, List.getElem_cons_zero, List.getElem_cons_succ]); go_simp; try with_reducible rfl)
    (try simp only [List.getElem_toArray, List.getElem_cons_zero, List.getElem_cons_succ, Act.put, List.setIfInBounds_toArray, List.set_cons_zero, List.set_cons_succ])
    refine wpTree_take (v := ?_) rfl (by rfl) ?_ (fun _ _ _ h => h) ?_
    rotate_left
    focus (intro w' hSw; obtain ⟨⟨x0, x1⟩, ⟨y0, y1, y2, y3, y4, y5, y6⟩, hF⟩ := hcl.out _ hSw; rw [hk.out] at y1; obtain ⟨v0, v1, v2, v3⟩ := hF.s3; clear hF; clear hSw; (try simp only [List.getElem_toArray, List.getElem_cons_zero, List.getElem_cons_succ]); go_simp; try with_reducible rfl)
    (try simp only [List.getElem_toArray, List.getElem_cons_zero, List.getElem_cons_succ, Act.put, List.setIfInBounds_toArray, List.set_cons_zero, List.set_cons_succ])
    refine wpTree_take (v := ?_) rfl (by rfl) ?_ (fun _ _ _ h => h) ?_
    rotate_left
    focus (intro w' hSw; obtain ⟨⟨x0, x1⟩, ⟨y0, y1, y2, y3, y4, y5, y6⟩, hF⟩ := hcl.out _ hSw; rw [hk.out] at y1; obtain ⟨v0, v1, v2, v3⟩ := hF.s3; clear hF; clear hSw; (try simp only [List.getElem_toArray, List.getElem_cons_zero, List.getElem_cons_succ]); go_simp; try with_reducible rfl)
    (try simp only [List.getElem_toArray, List.getElem_cons_zero, List.getElem_cons_succ, Act.put, List.setIfInBounds_toArray, List.set_cons_zero, List.set_cons_succ])
    refine wpTree_pure (v := ?_) rfl (by rfl) ?_ (fun _ _ _ h => h) ?_
    rotate_left
    focus (intro w'; (try simp only [List.getElem_toArray, List.getElem_cons_zero, List.getElem_cons_succ]); go_simp; try with_reducible rfl)
    (try simp only [List.getElem_toArray, List.getElem_cons_zero, List.getElem_cons_succ, Act.put, List.setIfInBounds_toArray, List.set_cons_zero, List.set_cons_succ])
    refine wpTree_take (v := ?_) rfl (by rfl) ?_ (fun _ _ _ h => h) ?_
    rotate_left
    focus (intro w' hSw; obtain ⟨⟨x0, x1⟩, ⟨y0, y1, y2, y3, y4, y5, y6⟩, hF⟩ := hcl.out _ hSw; rw [hk.out] at y1; obtain ⟨v0, v1, v2, v3⟩ := hF.s3; clear hF; clear hSw; (try simp only [List.getElem_toArray, List.getElem_cons_zero, List.getElem_cons_succ]); go_simp; try with_reducible rfl)
    (try simp only [List.getElem_toArray, List.getElem_cons_zero, List.getElem_cons_succ, Act.put, List.setIfInBounds_toArray, List.set_cons_zero, List.set_cons_succ])
    refine wpTree_do rfl (by rfl) ?_
    (try simp only [List.getElem_toArray, List.getElem_cons_zero, List.getElem_cons_succ])
    go_simp
    go_at_call 147
    (with_reducible refine (hcall.out _).mono ?_)
    rintro e wc ⟨rfl, hbc⟩
    have hSc := hSd.trans (hbc.mono hSd.size)
    refine ⟨by intros; first | exact hSc | simpa using hSc, ?_⟩
    (try simp only [List.getElem_toArray, List.getElem_cons_zero, List.getElem_cons_succ, Act.put, List.setIfInBounds_toArray, List.set_cons_zero, List.set_cons_succ])
    refine wpTree_pure (v := ?_) rfl (by rfl) ?_ (fun _ _ _ h => h) ?_
    rotate_left
    focus (intro w'; (try simp only [List.getElem_toArray, List.getElem_cons_zero, List.getElem_cons_succ]); go_simp; try with_reducible rfl)
    (try simp only [List.getElem_toArray, List.getElem_cons_zero, List.getElem_cons_succ, Act.put, List.setIfInBounds_toArray, List.set_cons_zero, List.set_cons_succ])
    refine wpTree_pure (v := ?_) rfl (by rfl) ?_ (fun _ _ _ h => h) ?_
    rotate_left
    focus (intro w'; (try simp only [List.getElem_toArray, List.getElem_cons_zero, List.getElem_cons_succ]); go_simp; try with_reducible rfl)
    (try simp only [List.getElem_toArray, List.getElem_cons_zero, List.getElem_cons_succ, Act.put, List.setIfInBounds_toArray, List.set_cons_zero, List.set_cons_succ])
    refine wpTree_pure (v := ?_) rfl (by rfl) ?_ (fun _ _ _ h => h) ?_
    rotate_left
    focus (intro w'; (try simp only [List.getElem_toArray, List.getElem_cons_zero, List.getElem_cons_succ]); go_simp; try with_reducible rfl)
    (try simp only [List.getElem_toArray, List.getElem_cons_zero, List.getElem_cons_succ, Act.put, List.setIfInBounds_toArray, List.set_cons_zero, List.set_cons_succ])
    (try unfold wpTree)
    go_wp2
    go_ret
    exact ⟨by rw [hE.out]; rfl, hbw.out.trans (hSc.mono hbw.out.size)⟩
  · have hcall : Hid (∀ V, Calls Tryd.prog 149 #[pntVal p, .int .i64 f.foot] V fun e w' => e = .returned (.int .i64 fv) ∧ Below V.heap.size V w') := fun V => by rw [hfv, hk]; exact far4_any p f.foot V hp ⟨a7, a8⟩
    replace hfv := Lib.hid hfv
    replace hk := Lib.hid hk
    go_enter Tryd.func53, Tryd.ntmps53
    go_wp2
    rw [← hW1, ← hW2]
    replace hW1 := Lib.hid hW1
    replace hW2 := Lib.hid hW2
    clear z0 z1 z2 p0 p1 p2 p3 p4 p5 p6
    have hSd : Below W2.heap.size W2 W2.drew := (Below.refl _ _).drew
    refine wp_region_tree (fun V => Below W2.heap.size W2 V) (.pure 0 (.read 1 (.pure 2 (.read 3 (.pure 4 (.pure 5 (.read 6 (.pure 7 (.read 8 (.pure 9 (.pure 10 (.read 11 (.read 12 (.pure 13 (.read 14 (.one 15 (.pure 16 (.pure 17 (.pure 18 .done))))))))))))))))))) [] (by kernel_rfl) (by kernel_rfl) hSd ?_
    refine wpTree_pure (v := ?_) rfl (by rfl) ?_ (fun _ _ _ h => h) ?_
    rotate_left
    focus (intro w'; (try simp only [List.getElem_toArray, List.getElem_cons_zero, List.getElem_cons_succ]); go_simp; try with_reducible rfl)
    (try simp only [List.getElem_toArray, List.getElem_cons_zero, List.getElem_cons_succ, Act.put, List.setIfInBounds_toArray, List.set_cons_zero, List.set_cons_succ])
    refine wpTree_take (v := ?_) rfl (by rfl) ?_ (fun _ _ _ h => h) ?_
    rotate_left
    focus (intro w' hSw; obtain ⟨⟨x0, x1⟩, ⟨y0, y1, y2, y3, y4, y5, y6⟩, hF⟩ := hcl.out _ hSw; rw [hk.out] at y1; obtain ⟨v0, v1, v2, v3⟩ := hF.s4; clear hF; clear hSw; (try simp only [List.getElem_toArray, List.getElem_cons_zero, List.getElem_cons_succ]); go_simp; try with_reducible rfl)
    (try simp only [List.getElem_toArray, List.getElem_cons_zero, List.getElem_cons_succ, Act.put, List.setIfInBounds_toArray, List.set_cons_zero, List.set_cons_succ])
    refine wpTree_pure (v := ?_) rfl (by rfl) ?_ (fun _ _ _ h => h) ?_
    rotate_left
    focus (intro w'; (try simp only [List.getElem_toArray, List.getElem_cons_zero, List.getElem_cons_succ]); go_simp; try with_reducible rfl)
    (try simp only [List.getElem_toArray, List.getElem_cons_zero, List.getElem_cons_succ, Act.put, List.setIfInBounds_toArray, List.set_cons_zero, List.set_cons_succ])
    refine wpTree_take (v := ?_) rfl (by rfl) ?_ (fun _ _ _ h => h) ?_
    rotate_left
    focus (intro w' hSw; obtain ⟨⟨x0, x1⟩, ⟨y0, y1, y2, y3, y4, y5, y6⟩, hF⟩ := hcl.out _ hSw; rw [hk.out] at y1; obtain ⟨v0, v1, v2, v3⟩ := hF.s4; clear hF; clear hSw; (try simp only [List.getElem_toArray, List.getElem_cons_zero, List.getElem_cons_succ]); go_simp; try with_reducible rfl)
    (try simp only [List.getElem_toArray, List.getElem_cons_zero, List.getElem_cons_succ, Act.put, List.setIfInBounds_toArray, List.set_cons_zero, List.set_cons_succ])
    refine wpTree_pure (v := ?_) rfl (by rfl) ?_ (fun _ _ _ h => h) ?_
    rotate_left
    focus (intro w'; (try simp only [List.getElem_toArray, List.getElem_cons_zero, List.getElem_cons_succ]); go_simp; try with_reducible rfl)
    (try simp only [List.getElem_toArray, List.getElem_cons_zero, List.getElem_cons_succ, Act.put, List.setIfInBounds_toArray, List.set_cons_zero, List.set_cons_succ])
    refine wpTree_pure (v := ?_) rfl (by rfl) ?_ (fun _ _ _ h => h) ?_
    rotate_left
    focus (intro w'; (try simp only [List.getElem_toArray, List.getElem_cons_zero, List.getElem_cons_succ]); go_simp; try with_reducible rfl)
    (try simp only [List.getElem_toArray, List.getElem_cons_zero, List.getElem_cons_succ, Act.put, List.setIfInBounds_toArray, List.set_cons_zero, List.set_cons_succ])
    refine wpTree_take (v := ?_) rfl (by rfl) ?_ (fun _ _ _ h => h) ?_
    rotate_left
    focus (intro w' hSw; obtain ⟨⟨x0, x1⟩, ⟨y0, y1, y2, y3, y4, y5, y6⟩, hF⟩ := hcl.out _ hSw; rw [hk.out] at y1; obtain ⟨v0, v1, v2, v3⟩ := hF.s4; clear hF; clear hSw; (try simp only [List.getElem_toArray, List.getElem_cons_zero, List.getElem_cons_succ]); go_simp; try with_reducible rfl)
    (try simp only [List.getElem_toArray, List.getElem_cons_zero, List.getElem_cons_succ, Act.put, List.setIfInBounds_toArray, List.set_cons_zero, List.set_cons_succ])
    refine wpTree_pure (v := ?_) rfl (by rfl) ?_ (fun _ _ _ h => h) ?_
    rotate_left
    focus (intro w'; (try simp only [List.getElem_toArray, List.getElem_cons_zero, List.getElem_cons_succ]); go_simp; try with_reducible rfl)
    (try simp only [List.getElem_toArray, List.getElem_cons_zero, List.getElem_cons_succ, Act.put, List.setIfInBounds_toArray, List.set_cons_zero, List.set_cons_succ])
    refine wpTree_take (v := ?_) rfl (by rfl) ?_ (fun _ _ _ h => h) ?_
    rotate_left
    focus (intro w' hSw; obtain ⟨⟨x0, x1⟩, ⟨y0, y1, y2, y3, y4, y5, y6⟩, hF⟩ := hcl.out _ hSw; rw [hk.out] at y1; obtain ⟨v0, v1, v2, v3⟩ := hF.s4; clear hF; clear hSw; (try simp only [List.getElem_toArray, List.getElem_cons_zero, List.getElem_cons_succ]); go_simp; try with_reducible rfl)
    (try simp only [List.getElem_toArray, List.getElem_cons_zero, List.getElem_cons_succ, Act.put, List.setIfInBounds_toArray, List.set_cons_zero, List.set_cons_succ])
    refine wpTree_pure (v := ?_) rfl (by rfl) ?_ (fun _ _ _ h => h) ?_
    rotate_left
    focus (intro w'; (try simp only [List.getElem_toArray, List.getElem_cons_zero, List.getElem_cons_succ]); go_simp; try with_reducible rfl)
    (try simp only [List.getElem_toArray, List.getElem_cons_zero, List.getElem_cons_succ, Act.put, List.setIfInBounds_toArray, List.set_cons_zero, List.set_cons_succ])
    refine wpTree_pure (v := ?_) rfl (by rfl) ?_ (fun _ _ _ h => h) ?_
    rotate_left
    focus (intro w'; (try simp only [List.getElem_toArray, List.getElem_cons_zero, List.getElem_cons_succ]); go_simp; try with_reducible rfl)
    (try simp only [List.getElem_toArray, List.getElem_cons_zero, List.getElem_cons_succ, Act.put, List.setIfInBounds_toArray, List.set_cons_zero, List.set_cons_succ])
    refine wpTree_take (v := ?_) rfl (by rfl) ?_ (fun _ _ _ h => h) ?_
    rotate_left
    focus (intro w' hSw; obtain ⟨⟨x0, x1⟩, ⟨y0, y1, y2, y3, y4, y5, y6⟩, hF⟩ := hcl.out _ hSw; rw [hk.out] at y1; obtain ⟨v0, v1, v2, v3⟩ := hF.s4; clear hF; clear hSw; (try simp only [List.getElem_toArray, List.getElem_cons_zero, List.getElem_cons_succ]); go_simp; try with_reducible rfl)
    (try simp only [List.getElem_toArray, List.getElem_cons_zero, List.getElem_cons_succ, Act.put, List.setIfInBounds_toArray, List.set_cons_zero, List.set_cons_succ])
    refine wpTree_take (v := ?_) rfl (by rfl) ?_ (fun _ _ _ h => h) ?_
    rotate_left
    focus (intro w' hSw; obtain ⟨⟨x0, x1⟩, ⟨y0, y1, y2, y3, y4, y5, y6⟩, hF⟩ := hcl.out _ hSw; rw [hk.out] at y1; obtain ⟨v0, v1, v2, v3⟩ := hF.s4; clear hF; clear hSw; (try simp only [List.getElem_toArray, List.getElem_cons_zero, List.getElem_cons_succ]); go_simp; try with_reducible rfl)
    (try simp only [List.getElem_toArray, List.getElem_cons_zero, List.getElem_cons_succ, Act.put, List.setIfInBounds_toArray, List.set_cons_zero, List.set_cons_succ])
    refine wpTree_pure (v := ?_) rfl (by rfl) ?_ (fun _ _ _ h => h) ?_
    rotate_left
    focus (intro w'; (try simp only [List.getElem_toArray, List.getElem_cons_zero, List.getElem_cons_succ]); go_simp; try with_reducible rfl)
    (try simp only [List.getElem_toArray, List.getElem_cons_zero, List.getElem_cons_succ, Act.put, List.setIfInBounds_toArray, List.set_cons_zero, List.set_cons_succ])
    refine wpTree_take (v := ?_) rfl (by rfl) ?_ (fun _ _ _ h => h) ?_
    rotate_left
    focus (intro w' hSw; obtain ⟨⟨x0, x1⟩, ⟨y0, y1, y2, y3, y4, y5, y6⟩, hF⟩ := hcl.out _ hSw; rw [hk.out] at y1; obtain ⟨v0, v1, v2, v3⟩ := hF.s4; clear hF; clear hSw; (try simp only [List.getElem_toArray, List.getElem_cons_zero, List.getElem_cons_succ]); go_simp; try with_reducible rfl)
    (try simp only [List.getElem_toArray, List.getElem_cons_zero, List.getElem_cons_succ, Act.put, List.setIfInBounds_toArray, List.set_cons_zero, List.set_cons_succ])
    refine wpTree_do rfl (by rfl) ?_
    (try simp only [List.getElem_toArray, List.getElem_cons_zero, List.getElem_cons_succ])
    go_simp
    go_at_call 149
    (with_reducible refine (hcall.out _).mono ?_)
    rintro e wc ⟨rfl, hbc⟩
    have hSc := hSd.trans (hbc.mono hSd.size)
    refine ⟨by intros; first | exact hSc | simpa using hSc, ?_⟩
    (try simp only [List.getElem_toArray, List.getElem_cons_zero, List.getElem_cons_succ, Act.put, List.setIfInBounds_toArray, List.set_cons_zero, List.set_cons_succ])
    refine wpTree_pure (v := ?_) rfl (by rfl) ?_ (fun _ _ _ h => h) ?_
    rotate_left
    focus (intro w'; (try simp only [List.getElem_toArray, List.getElem_cons_zero, List.getElem_cons_succ]); go_simp; try with_reducible rfl)
    (try simp only [List.getElem_toArray, List.getElem_cons_zero, List.getElem_cons_succ, Act.put, List.setIfInBounds_toArray, List.set_cons_zero, List.set_cons_succ])
    refine wpTree_pure (v := ?_) rfl (by rfl) ?_ (fun _ _ _ h => h) ?_
    rotate_left
    focus (intro w'; (try simp only [List.getElem_toArray, List.getElem_cons_zero, List.getElem_cons_succ]); go_simp; try with_reducible rfl)
    (try simp only [List.getElem_toArray, List.getElem_cons_zero, List.getElem_cons_succ, Act.put, List.setIfInBounds_toArray, List.set_cons_zero, List.set_cons_succ])
    refine wpTree_pure (v := ?_) rfl (by rfl) ?_ (fun _ _ _ h => h) ?_
    rotate_left
    focus (intro w'; (try simp only [List.getElem_toArray, List.getElem_cons_zero, List.getElem_cons_succ]); go_simp; try with_reducible rfl)
    (try simp only [List.getElem_toArray, List.getElem_cons_zero, List.getElem_cons_succ, Act.put, List.setIfInBounds_toArray, List.set_cons_zero, List.set_cons_succ])
    (try unfold wpTree)
    go_wp2
    go_ret
    exact ⟨by rw [hE.out]; rfl, hbw.out.trans (hSc.mono hbw.out.size)⟩
abbrev edgVal (e : Edg) : Value := .agg #[.int .i64 e.face, .int .i64 e.number, .int .i64 e.s.a.x, .int .i64 e.s.a.y, .int .i64 e.s.b.x, .int .i64 e.s.b.y]
abbrev edgCells (e : Edg) : Array Value := #[.int .i64 e.face, .int .i64 e.number, .int .i64 e.s.a.x, .int .i64 e.s.a.y, .int .i64 e.s.b.x, .int .i64 e.s.b.y]
set_option maxHeartbeats 2000000 in
set_option maxRecDepth 100000 in
theorem above_any (hb mb : Nat) (fs : List Face) (fa : Option Addr) (fc : Nat) (v1 : Value) (i j : Nat) (p : Pnt) (w : World) (hH : HsX w hb mb fs fa fc v1) (hi : i < fs.length) (hj : j < fs.length) (hgi : argB (fs.getD i default) = true) (hgj : argB (fs.getD j default) = true) (hp : SmP p 1000000) :
    Calls Tryd.prog 110 #[.pointer (some ⟨hb, 0, none⟩), .int .i64 (i : Int), .int .i64 (j : Int), pntVal p] w fun e w' => e = .returned (.int .i64 (sgn (aboveF (fs.getD i default) (fs.getD j default) p))) ∧ Below w.heap.size w w' := by
  have cA := fun V (hV : HsX V hb mb fs fa fc v1) => high_any hb mb fs fa fc v1 i p V hV hi hgi hp
  have cB := fun V (hV : HsX V hb mb fs fa fc v1) => high_any hb mb fs fa fc v1 j p V hV hj hgj hp
  have hfx := fun V (hV : HsX V hb mb fs fa fc v1) => hV.fx.at7 hi
  have hgx := fun V (hV : HsX V hb mb fs fa fc v1) => hV.fx.at7 hj
  obtain ⟨f, hf⟩ : ∃ f, f = fs.getD i default := ⟨_, rfl⟩
  obtain ⟨g, hg⟩ : ∃ g, g = fs.getD j default := ⟨_, rfl⟩
  rw [← hf] at hgi cA hfx ⊢
  rw [← hg] at hgj cB hgx ⊢
  have rf := arg_run hgi
  have rg := arg_run hgj
  have bf := high_in hgi hp
  have bg := high_in hgj hp
  have hE : aboveF f g p = highF f p * g.run - highF g p * f.run := rfl
  obtain ⟨x, hx⟩ : ∃ x, x = highF f p := ⟨_, rfl⟩
  obtain ⟨y, hy⟩ : ∃ y, y = highF g p := ⟨_, rfl⟩
  rw [← hx] at cA bf hE
  rw [← hy] at cB bg hE
  have m1 := mul_in (a := g.run) (b := x) (n := 100) (m := 200000000) (by omega) bf
  have m2 := mul_in (a := f.run) (b := y) (n := 100) (m := 200000000) (by omega) bg
  rw [Int.mul_comm g.run x] at m1
  rw [Int.mul_comm f.run y] at m2
  have w1 : IntKind.i64.wrap (x * g.run) = x * g.run := IntWalk.i64_in _ (by omega)
  have w2 : IntKind.i64.wrap (y * f.run) = y * f.run := IntWalk.i64_in _ (by omega)
  have w3 : IntKind.i64.wrap (x * g.run - y * f.run) = x * g.run - y * f.run := IntWalk.i64_in _ (by omega)
  obtain ⟨W0, hW0⟩ : ∃ W0, W0 = w.alloc (.cells #[.int .i64 p.x, .int .i64 p.y] 39) := ⟨_, rfl⟩
  have hb0 : Below w.heap.size w W0 := by rw [hW0]; exact (Below.refl _ w).alloc (Nat.le_refl _) _
  have hH0 := hH.later hb0
  have hpb : W0.heap[w.heap.size]? = some (.cells #[.int .i64 p.x, .int .i64 p.y] 39 (0, 0)) := by rw [hW0]; exact heap_new _ _ _ rfl
  obtain ⟨ad, hA, _⟩ := hfx W0 hH0
  subst hA
  have hcl : Hid (∀ V, Below W0.heap.size W0 V → V.cell? ⟨hb, 0, none⟩ = some (.slice (some ad) fs.length fc) ∧ (V.cell? ⟨w.heap.size, 0, none⟩ = some (.int .i64 p.x) ∧ V.cell? ⟨w.heap.size, 1, none⟩ = some (.int .i64 p.y)) ∧ V.cell? ⟨(ad.add (i * 7)).block, (ad.add (i * 7)).off + 5, none⟩ = some (.int .i64 f.run) ∧ V.cell? ⟨(ad.add (j * 7)).block, (ad.add (j * 7)).off + 5, none⟩ = some (.int .i64 g.run)) := fun V h => by
    have hV := hH0.later h
    obtain ⟨a1, e1, _, _, _, _, _, r1, _⟩ := hfx V hV
    obtain ⟨a2, e2, _, _, _, _, _, r2, _⟩ := hgx V hV
    cases e1
    cases e2
    exact ⟨(cells3 hV.c).1, cells2 ((h.block _ (lt_block hpb)).trans hpb), r1, r2⟩
  have cA' : Hid (∀ V, Below W0.heap.size W0 V → Calls Tryd.prog 53 #[.pointer (some ⟨hb, 0, none⟩), .int .i64 (i : Int), pntVal p] V fun e w' => e = .returned (.int .i64 x) ∧ Below V.heap.size V w') := fun V h => cA V (hH0.later h)
  have cB' : Hid (∀ V, Below W0.heap.size W0 V → Calls Tryd.prog 53 #[.pointer (some ⟨hb, 0, none⟩), .int .i64 (j : Int), pntVal p] V fun e w' => e = .returned (.int .i64 y) ∧ Below V.heap.size V w') := fun V h => cB V (hH0.later h)
  have hb0' := Lib.hid hb0
  replace hE := Lib.hid hE
  clear cA cB hfx hgx hH0 hpb hb0 m1 m2 bf bg rf rg
  replace hf := Lib.hid hf
  replace hg := Lib.hid hg
  replace hx := Lib.hid hx
  replace hy := Lib.hid hy
  go_enter Tryd.func110, Tryd.ntmps110
  go_upto_region 1 with fail
  rw [← hW0]
  replace hW0 := Lib.hid hW0
  have hSd : Below W0.heap.size W0 W0.drew := (Below.refl _ _).drew
  refine wp_region_tree (fun V => Below W0.heap.size W0 V) (.pure 0 (.pure 1 (.read 2 (.pure 4 (.pure 5 (.pure 6 (.pure 7 (.read 8 (.pure 9 (.pure 10 (.pure 11 (.read 12 (.pure 14 (.pure 15 (.read 16 (.pure 18 (.pure 19 (.pure 20 (.pure 21 (.read 22 (.pure 23 (.pure 24 (.pure 25 (.read 26 (.one 3 (.pure 13 (.one 17 (.pure 27 (.pure 28 (.one 29 (.pure 30 .done))))))))))))))))))))))))))))))) [] (by kernel_rfl) (by kernel_rfl) hSd ?_
  refine wpTree_pure (v := ?_) rfl (by rfl) ?_ (fun _ _ _ h => h) ?_
  rotate_left
  focus (intro w'; (try simp only [List.getElem_toArray, List.getElem_cons_zero, List.getElem_cons_succ]); go_simp; try with_reducible rfl)
  (try simp only [List.getElem_toArray, List.getElem_cons_zero, List.getElem_cons_succ, Act.put, List.setIfInBounds_toArray, List.set_cons_zero, List.set_cons_succ])
  refine wpTree_pure (v := ?_) rfl (by rfl) ?_ (fun _ _ _ h => h) ?_
  rotate_left
  focus (intro w'; (try simp only [List.getElem_toArray, List.getElem_cons_zero, List.getElem_cons_succ]); go_simp; try with_reducible rfl)
  (try simp only [List.getElem_toArray, List.getElem_cons_zero, List.getElem_cons_succ, Act.put, List.setIfInBounds_toArray, List.set_cons_zero, List.set_cons_succ])
  refine wpTree_take (v := ?_) rfl (by rfl) ?_ (fun _ _ _ h => h) ?_
  rotate_left
  focus (intro w' hSw; obtain ⟨z0, ⟨x0, x1⟩, r1, r2⟩ := hcl.out _ hSw; clear hSw; (try simp only [List.getElem_toArray, List.getElem_cons_zero, List.getElem_cons_succ]); go_simp; try with_reducible rfl)
  (try simp only [List.getElem_toArray, List.getElem_cons_zero, List.getElem_cons_succ, Act.put, List.setIfInBounds_toArray, List.set_cons_zero, List.set_cons_succ])
  refine wpTree_pure (v := ?_) rfl (by rfl) ?_ (fun _ _ _ h => h) ?_
  rotate_left
  focus (intro w'; (try simp only [List.getElem_toArray, List.getElem_cons_zero, List.getElem_cons_succ]); go_simp; try with_reducible rfl)
  (try simp only [List.getElem_toArray, List.getElem_cons_zero, List.getElem_cons_succ, Act.put, List.setIfInBounds_toArray, List.set_cons_zero, List.set_cons_succ])
  refine wpTree_pure (v := ?_) rfl (by rfl) ?_ (fun _ _ _ h => h) ?_
  rotate_left
  focus (intro w'; (try simp only [List.getElem_toArray, List.getElem_cons_zero, List.getElem_cons_succ]); go_simp; try with_reducible rfl)
  (try simp only [List.getElem_toArray, List.getElem_cons_zero, List.getElem_cons_succ, Act.put, List.setIfInBounds_toArray, List.set_cons_zero, List.set_cons_succ])
  refine wpTree_pure (v := ?_) rfl (by rfl) ?_ (fun _ _ _ h => h) ?_
  rotate_left
  focus (intro w'; (try simp only [List.getElem_toArray, List.getElem_cons_zero, List.getElem_cons_succ]); go_simp; try with_reducible rfl)
  (try simp only [List.getElem_toArray, List.getElem_cons_zero, List.getElem_cons_succ, Act.put, List.setIfInBounds_toArray, List.set_cons_zero, List.set_cons_succ])
  refine wpTree_pure (v := ?_) rfl (by rfl) ?_ (fun _ _ _ h => h) ?_
  rotate_left
  focus (intro w'; (try simp only [List.getElem_toArray, List.getElem_cons_zero, List.getElem_cons_succ]); go_simp; try with_reducible rfl)
  (try simp only [List.getElem_toArray, List.getElem_cons_zero, List.getElem_cons_succ, Act.put, List.setIfInBounds_toArray, List.set_cons_zero, List.set_cons_succ])
  refine wpTree_take (v := ?_) rfl (by rfl) ?_ (fun _ _ _ h => h) ?_
  rotate_left
  focus (intro w' hSw; obtain ⟨z0, ⟨x0, x1⟩, r1, r2⟩ := hcl.out _ hSw; clear hSw; (try simp only [List.getElem_toArray, List.getElem_cons_zero, List.getElem_cons_succ]); go_simp; try with_reducible rfl)
  (try simp only [List.getElem_toArray, List.getElem_cons_zero, List.getElem_cons_succ, Act.put, List.setIfInBounds_toArray, List.set_cons_zero, List.set_cons_succ])
  refine wpTree_pure (v := ?_) rfl (by rfl) ?_ (fun _ _ _ h => h) ?_
  rotate_left
  focus (intro w'; (try simp only [List.getElem_toArray, List.getElem_cons_zero, List.getElem_cons_succ]); go_simp; try with_reducible rfl)
  (try simp only [List.getElem_toArray, List.getElem_cons_zero, List.getElem_cons_succ, Act.put, List.setIfInBounds_toArray, List.set_cons_zero, List.set_cons_succ])
  refine wpTree_pure (v := ?_) rfl (by rfl) ?_ (fun _ _ _ h => h) ?_
  rotate_left
  focus (intro w'; (try simp only [List.getElem_toArray, List.getElem_cons_zero, List.getElem_cons_succ]); go_simp; try with_reducible rfl)
  (try simp only [List.getElem_toArray, List.getElem_cons_zero, List.getElem_cons_succ, Act.put, List.setIfInBounds_toArray, List.set_cons_zero, List.set_cons_succ])
  refine wpTree_pure (v := ?_) rfl (by rfl) ?_ (fun _ _ _ h => h) ?_
  rotate_left
  focus (intro w'; (try simp only [List.getElem_toArray, List.getElem_cons_zero, List.getElem_cons_succ]); go_simp; try with_reducible rfl)
  (try simp only [List.getElem_toArray, List.getElem_cons_zero, List.getElem_cons_succ, Act.put, List.setIfInBounds_toArray, List.set_cons_zero, List.set_cons_succ])
  refine wpTree_take (v := ?_) rfl (by rfl) ?_ (fun _ _ _ h => h) ?_
  rotate_left
  focus (intro w' hSw; obtain ⟨z0, ⟨x0, x1⟩, r1, r2⟩ := hcl.out _ hSw; clear hSw; (try simp only [List.getElem_toArray, List.getElem_cons_zero, List.getElem_cons_succ]); go_simp; try with_reducible rfl)
  (try simp only [List.getElem_toArray, List.getElem_cons_zero, List.getElem_cons_succ, Act.put, List.setIfInBounds_toArray, List.set_cons_zero, List.set_cons_succ])
  refine wpTree_pure (v := ?_) rfl (by rfl) ?_ (fun _ _ _ h => h) ?_
  rotate_left
  focus (intro w'; (try simp only [List.getElem_toArray, List.getElem_cons_zero, List.getElem_cons_succ]); go_simp; try with_reducible rfl)
  (try simp only [List.getElem_toArray, List.getElem_cons_zero, List.getElem_cons_succ, Act.put, List.setIfInBounds_toArray, List.set_cons_zero, List.set_cons_succ])
  refine wpTree_pure (v := ?_) rfl (by rfl) ?_ (fun _ _ _ h => h) ?_
  rotate_left
  focus (intro w'; (try simp only [List.getElem_toArray, List.getElem_cons_zero, List.getElem_cons_succ]); go_simp; try with_reducible rfl)
  (try simp only [List.getElem_toArray, List.getElem_cons_zero, List.getElem_cons_succ, Act.put, List.setIfInBounds_toArray, List.set_cons_zero, List.set_cons_succ])
  refine wpTree_take (v := ?_) rfl (by rfl) ?_ (fun _ _ _ h => h) ?_
  rotate_left
  focus (intro w' hSw; obtain ⟨z0, ⟨x0, x1⟩, r1, r2⟩ := hcl.out _ hSw; clear hSw; (try simp only [List.getElem_toArray, List.getElem_cons_zero, List.getElem_cons_succ]); go_simp; try with_reducible rfl)
  (try simp only [List.getElem_toArray, List.getElem_cons_zero, List.getElem_cons_succ, Act.put, List.setIfInBounds_toArray, List.set_cons_zero, List.set_cons_succ])
  refine wpTree_pure (v := ?_) rfl (by rfl) ?_ (fun _ _ _ h => h) ?_
  rotate_left
  focus (intro w'; (try simp only [List.getElem_toArray, List.getElem_cons_zero, List.getElem_cons_succ]); go_simp; try with_reducible rfl)
  (try simp only [List.getElem_toArray, List.getElem_cons_zero, List.getElem_cons_succ, Act.put, List.setIfInBounds_toArray, List.set_cons_zero, List.set_cons_succ])
  refine wpTree_pure (v := ?_) rfl (by rfl) ?_ (fun _ _ _ h => h) ?_
  rotate_left
  focus (intro w'; (try simp only [List.getElem_toArray, List.getElem_cons_zero, List.getElem_cons_succ]); go_simp; try with_reducible rfl)
  (try simp only [List.getElem_toArray, List.getElem_cons_zero, List.getElem_cons_succ, Act.put, List.setIfInBounds_toArray, List.set_cons_zero, List.set_cons_succ])
  refine wpTree_pure (v := ?_) rfl (by rfl) ?_ (fun _ _ _ h => h) ?_
  rotate_left
  focus (intro w'; (try simp only [List.getElem_toArray, List.getElem_cons_zero, List.getElem_cons_succ]); go_simp; try with_reducible rfl)
  (try simp only [List.getElem_toArray, List.getElem_cons_zero, List.getElem_cons_succ, Act.put, List.setIfInBounds_toArray, List.set_cons_zero, List.set_cons_succ])
  refine wpTree_pure (v := ?_) rfl (by rfl) ?_ (fun _ _ _ h => h) ?_
  rotate_left
  focus (intro w'; (try simp only [List.getElem_toArray, List.getElem_cons_zero, List.getElem_cons_succ]); go_simp; try with_reducible rfl)
  (try simp only [List.getElem_toArray, List.getElem_cons_zero, List.getElem_cons_succ, Act.put, List.setIfInBounds_toArray, List.set_cons_zero, List.set_cons_succ])
  refine wpTree_take (v := ?_) rfl (by rfl) ?_ (fun _ _ _ h => h) ?_
  rotate_left
  focus (intro w' hSw; obtain ⟨z0, ⟨x0, x1⟩, r1, r2⟩ := hcl.out _ hSw; clear hSw; (try simp only [List.getElem_toArray, List.getElem_cons_zero, List.getElem_cons_succ]); go_simp; try with_reducible rfl)
  (try simp only [List.getElem_toArray, List.getElem_cons_zero, List.getElem_cons_succ, Act.put, List.setIfInBounds_toArray, List.set_cons_zero, List.set_cons_succ])
  refine wpTree_pure (v := ?_) rfl (by rfl) ?_ (fun _ _ _ h => h) ?_
  rotate_left
  focus (intro w'; (try simp only [List.getElem_toArray, List.getElem_cons_zero, List.getElem_cons_succ]); go_simp; try with_reducible rfl)
  (try simp only [List.getElem_toArray, List.getElem_cons_zero, List.getElem_cons_succ, Act.put, List.setIfInBounds_toArray, List.set_cons_zero, List.set_cons_succ])
  refine wpTree_pure (v := ?_) rfl (by rfl) ?_ (fun _ _ _ h => h) ?_
  rotate_left
  focus (intro w'; (try simp only [List.getElem_toArray, List.getElem_cons_zero, List.getElem_cons_succ]); go_simp; try with_reducible rfl)
  (try simp only [List.getElem_toArray, List.getElem_cons_zero, List.getElem_cons_succ, Act.put, List.setIfInBounds_toArray, List.set_cons_zero, List.set_cons_succ])
  refine wpTree_pure (v := ?_) rfl (by rfl) ?_ (fun _ _ _ h => h) ?_
  rotate_left
  focus (intro w'; (try simp only [List.getElem_toArray, List.getElem_cons_zero, List.getElem_cons_succ]); go_simp; try with_reducible rfl)
  (try simp only [List.getElem_toArray, List.getElem_cons_zero, List.getElem_cons_succ, Act.put, List.setIfInBounds_toArray, List.set_cons_zero, List.set_cons_succ])
  refine wpTree_take (v := ?_) rfl (by rfl) ?_ (fun _ _ _ h => h) ?_
  rotate_left
  focus (intro w' hSw; obtain ⟨z0, ⟨x0, x1⟩, r1, r2⟩ := hcl.out _ hSw; clear hSw; (try simp only [List.getElem_toArray, List.getElem_cons_zero, List.getElem_cons_succ]); go_simp; try with_reducible rfl)
  (try simp only [List.getElem_toArray, List.getElem_cons_zero, List.getElem_cons_succ, Act.put, List.setIfInBounds_toArray, List.set_cons_zero, List.set_cons_succ])
  refine wpTree_do rfl (by rfl) ?_
  (try simp only [List.getElem_toArray, List.getElem_cons_zero, List.getElem_cons_succ])
  go_simp
  go_at_call 53
  (with_reducible refine (cA'.out _ hSd).mono ?_)
  rintro e wc ⟨rfl, hbc⟩
  have hSc := hSd.trans (hbc.mono hSd.size)
  refine ⟨by intros; first | exact hSc | simpa using hSc, ?_⟩
  (try simp only [List.getElem_toArray, List.getElem_cons_zero, List.getElem_cons_succ, Act.put, List.setIfInBounds_toArray, List.set_cons_zero, List.set_cons_succ])
  refine wpTree_pure (v := ?_) rfl (by rfl) ?_ (fun _ _ _ h => h) ?_
  rotate_left
  focus (intro w'; (try simp only [List.getElem_toArray, List.getElem_cons_zero, List.getElem_cons_succ]); go_simp; try with_reducible rfl)
  (try simp only [List.getElem_toArray, List.getElem_cons_zero, List.getElem_cons_succ, Act.put, List.setIfInBounds_toArray, List.set_cons_zero, List.set_cons_succ])
  refine wpTree_do rfl (by rfl) ?_
  (try simp only [List.getElem_toArray, List.getElem_cons_zero, List.getElem_cons_succ])
  go_simp
  go_at_call 53
  (with_reducible refine (cB'.out _ hSc).mono ?_)
  rintro e we ⟨rfl, hbe⟩
  have hSe := hSc.trans (hbe.mono hSc.size)
  refine ⟨by intros; first | exact hSe | simpa using hSe, ?_⟩
  (try simp only [List.getElem_toArray, List.getElem_cons_zero, List.getElem_cons_succ, Act.put, List.setIfInBounds_toArray, List.set_cons_zero, List.set_cons_succ])
  refine wpTree_pure (v := ?_) rfl (by rfl) ?_ (fun _ _ _ h => h) ?_
  rotate_left
  focus (intro w'; (try simp only [List.getElem_toArray, List.getElem_cons_zero, List.getElem_cons_succ]); go_simp; try with_reducible rfl)
  (try simp only [List.getElem_toArray, List.getElem_cons_zero, List.getElem_cons_succ, Act.put, List.setIfInBounds_toArray, List.set_cons_zero, List.set_cons_succ])
  refine wpTree_pure (v := ?_) rfl (by rfl) ?_ (fun _ _ _ h => h) ?_
  rotate_left
  focus (intro w'; (try simp only [List.getElem_toArray, List.getElem_cons_zero, List.getElem_cons_succ]); go_simp; try with_reducible rfl)
  (try simp only [List.getElem_toArray, List.getElem_cons_zero, List.getElem_cons_succ, Act.put, List.setIfInBounds_toArray, List.set_cons_zero, List.set_cons_succ])
  refine wpTree_do rfl (by rfl) ?_
  (try simp only [List.getElem_toArray, List.getElem_cons_zero, List.getElem_cons_succ])
  go_simp
  go_at_call 108
  (with_reducible refine (signOf_any _ _).mono ?_)
  rintro e wf ⟨rfl, rfl⟩
  skip
  refine ⟨by intros; first | exact hSe | simpa using hSe, ?_⟩
  (try simp only [List.getElem_toArray, List.getElem_cons_zero, List.getElem_cons_succ, Act.put, List.setIfInBounds_toArray, List.set_cons_zero, List.set_cons_succ])
  refine wpTree_pure (v := ?_) rfl (by rfl) ?_ (fun _ _ _ h => h) ?_
  rotate_left
  focus (intro w'; (try simp only [List.getElem_toArray, List.getElem_cons_zero, List.getElem_cons_succ]); go_simp; try with_reducible rfl)
  (try simp only [List.getElem_toArray, List.getElem_cons_zero, List.getElem_cons_succ, Act.put, List.setIfInBounds_toArray, List.set_cons_zero, List.set_cons_succ])
  (try unfold wpTree)
  go_wp2
  go_ret
  exact ⟨by rw [hE.out]; rfl, hb0'.out.trans (hSe.mono hb0'.out.size)⟩
set_option maxHeartbeats 2000000 in
set_option maxRecDepth 100000 in
theorem level_any (hb mb : Nat) (fs : List Face) (fa : Option Addr) (fc : Nat) (v1 : Value) (e : Edg) (i : Nat) (w : World) (hH : HsX w hb mb fs fa fc v1) (hi : i < fs.length) (hei : e.face = (i : Int)) (hg : argB (fs.getD i default) = true) (ha : SmP e.s.a 1000000) (hbp : SmP e.s.b 1000000) :
    Calls Tryd.prog 111 #[.pointer (some ⟨hb, 0, none⟩), edgVal e] w fun e' w' => e' = .returned (.bool (levelF (fs.getD i default) e.s)) ∧ Below w.heap.size w w' := by
  have cA := fun V (hV : HsX V hb mb fs fa fc v1) => high_any hb mb fs fa fc v1 i e.s.a V hV hi hg ha
  have cB := fun V (hV : HsX V hb mb fs fa fc v1) => high_any hb mb fs fa fc v1 i e.s.b V hV hi hg hbp
  obtain ⟨f, hf⟩ : ∃ f, f = fs.getD i default := ⟨_, rfl⟩
  rw [← hf] at hg cA cB ⊢
  have hE : levelF f e.s = decide (highF f e.s.a = highF f e.s.b) := rfl
  obtain ⟨x, hx⟩ : ∃ x, x = highF f e.s.a := ⟨_, rfl⟩
  obtain ⟨y, hy⟩ : ∃ y, y = highF f e.s.b := ⟨_, rfl⟩
  rw [← hx, ← hy] at hE
  rw [← hx] at cA
  rw [← hy] at cB
  obtain ⟨W0, hW0⟩ : ∃ W0, W0 = w.alloc (.cells (edgCells e) 129) := ⟨_, rfl⟩
  have hb0 : Below w.heap.size w W0 := by rw [hW0]; exact (Below.refl _ w).alloc (Nat.le_refl _) _
  have hH0 := hH.later hb0
  have hpb : W0.heap[w.heap.size]? = some (.cells (edgCells e) 129 (0, 0)) := by rw [hW0]; exact heap_new _ _ _ rfl
  have hcl : Hid (∀ V, Below W0.heap.size W0 V → V.cell? ⟨w.heap.size, 0, none⟩ = some (.int .i64 (i : Int)) ∧ V.cell? ⟨w.heap.size, 1, none⟩ = some (.int .i64 e.number) ∧ V.cell? ⟨w.heap.size, 2, none⟩ = some (.int .i64 e.s.a.x) ∧ V.cell? ⟨w.heap.size, 3, none⟩ = some (.int .i64 e.s.a.y) ∧ V.cell? ⟨w.heap.size, 4, none⟩ = some (.int .i64 e.s.b.x) ∧ V.cell? ⟨w.heap.size, 5, none⟩ = some (.int .i64 e.s.b.y)) := fun V h => by
    have := cells6 ((h.block _ (lt_block hpb)).trans hpb)
    rw [hei] at this
    exact this
  have cA' : Hid (∀ V, Below W0.heap.size W0 V → Calls Tryd.prog 53 #[.pointer (some ⟨hb, 0, none⟩), .int .i64 (i : Int), pntVal e.s.a] V fun e w' => e = .returned (.int .i64 x) ∧ Below V.heap.size V w') := fun V h => cA V (hH0.later h)
  have cB' : Hid (∀ V, Below W0.heap.size W0 V → Calls Tryd.prog 53 #[.pointer (some ⟨hb, 0, none⟩), .int .i64 (i : Int), pntVal e.s.b] V fun e w' => e = .returned (.int .i64 y) ∧ Below V.heap.size V w') := fun V h => cB V (hH0.later h)
  have hb0' := Lib.hid hb0
  have heq : (x == y) = decide (x = y) := rfl
  rw [← heq] at hE
  replace hE := Lib.hid hE
  clear cA cB hH0 hpb hb0 heq
  replace hei := Lib.hid hei
  replace hf := Lib.hid hf
  replace hx := Lib.hid hx
  replace hy := Lib.hid hy
  go_enter Tryd.func111, Tryd.ntmps111
  go_upto_region 1 with fail
  rw [← hW0]
  replace hW0 := Lib.hid hW0
  have hSd : Below W0.heap.size W0 W0.drew := (Below.refl _ _).drew
  refine wp_region_tree (fun V => Below W0.heap.size W0 V) (.pure 0 (.pure 1 (.read 2 (.pure 3 (.pure 4 (.read 5 (.pure 7 (.pure 8 (.read 9 (.pure 10 (.pure 11 (.read 12 (.one 6 (.one 13 (.pure 14 (.pure 15 .done)))))))))))))))) [] (by kernel_rfl) (by kernel_rfl) hSd ?_
  refine wpTree_pure (v := ?_) rfl (by rfl) ?_ (fun _ _ _ h => h) ?_
  rotate_left
  focus (intro w'; (try simp only [List.getElem_toArray, List.getElem_cons_zero, List.getElem_cons_succ]); go_simp; try with_reducible rfl)
  (try simp only [List.getElem_toArray, List.getElem_cons_zero, List.getElem_cons_succ, Act.put, List.setIfInBounds_toArray, List.set_cons_zero, List.set_cons_succ])
  refine wpTree_pure (v := ?_) rfl (by rfl) ?_ (fun _ _ _ h => h) ?_
  rotate_left
  focus (intro w'; (try simp only [List.getElem_toArray, List.getElem_cons_zero, List.getElem_cons_succ]); go_simp; try with_reducible rfl)
  (try simp only [List.getElem_toArray, List.getElem_cons_zero, List.getElem_cons_succ, Act.put, List.setIfInBounds_toArray, List.set_cons_zero, List.set_cons_succ])
  refine wpTree_take (v := ?_) rfl (by rfl) ?_ (fun _ _ _ h => h) ?_
  rotate_left
  focus (intro w' hSw; obtain ⟨x0, x1, x2, x3, x4, x5⟩ := hcl.out _ hSw; clear hSw; (try simp only [List.getElem_toArray, List.getElem_cons_zero, List.getElem_cons_succ]); go_simp; try with_reducible rfl)
  (try simp only [List.getElem_toArray, List.getElem_cons_zero, List.getElem_cons_succ, Act.put, List.setIfInBounds_toArray, List.set_cons_zero, List.set_cons_succ])
  refine wpTree_pure (v := ?_) rfl (by rfl) ?_ (fun _ _ _ h => h) ?_
  rotate_left
  focus (intro w'; (try simp only [List.getElem_toArray, List.getElem_cons_zero, List.getElem_cons_succ]); go_simp; try with_reducible rfl)
  (try simp only [List.getElem_toArray, List.getElem_cons_zero, List.getElem_cons_succ, Act.put, List.setIfInBounds_toArray, List.set_cons_zero, List.set_cons_succ])
  refine wpTree_pure (v := ?_) rfl (by rfl) ?_ (fun _ _ _ h => h) ?_
  rotate_left
  focus (intro w'; (try simp only [List.getElem_toArray, List.getElem_cons_zero, List.getElem_cons_succ]); go_simp; try with_reducible rfl)
  (try simp only [List.getElem_toArray, List.getElem_cons_zero, List.getElem_cons_succ, Act.put, List.setIfInBounds_toArray, List.set_cons_zero, List.set_cons_succ])
  refine wpTree_take (v := ?_) rfl (by rfl) ?_ (fun _ _ _ h => h) ?_
  rotate_left
  focus (intro w' hSw; obtain ⟨x0, x1, x2, x3, x4, x5⟩ := hcl.out _ hSw; clear hSw; (try simp only [List.getElem_toArray, List.getElem_cons_zero, List.getElem_cons_succ]); go_simp; try with_reducible rfl)
  (try simp only [List.getElem_toArray, List.getElem_cons_zero, List.getElem_cons_succ, Act.put, List.setIfInBounds_toArray, List.set_cons_zero, List.set_cons_succ])
  refine wpTree_pure (v := ?_) rfl (by rfl) ?_ (fun _ _ _ h => h) ?_
  rotate_left
  focus (intro w'; (try simp only [List.getElem_toArray, List.getElem_cons_zero, List.getElem_cons_succ]); go_simp; try with_reducible rfl)
  (try simp only [List.getElem_toArray, List.getElem_cons_zero, List.getElem_cons_succ, Act.put, List.setIfInBounds_toArray, List.set_cons_zero, List.set_cons_succ])
  refine wpTree_pure (v := ?_) rfl (by rfl) ?_ (fun _ _ _ h => h) ?_
  rotate_left
  focus (intro w'; (try simp only [List.getElem_toArray, List.getElem_cons_zero, List.getElem_cons_succ]); go_simp; try with_reducible rfl)
  (try simp only [List.getElem_toArray, List.getElem_cons_zero, List.getElem_cons_succ, Act.put, List.setIfInBounds_toArray, List.set_cons_zero, List.set_cons_succ])
  refine wpTree_take (v := ?_) rfl (by rfl) ?_ (fun _ _ _ h => h) ?_
  rotate_left
  focus (intro w' hSw; obtain ⟨x0, x1, x2, x3, x4, x5⟩ := hcl.out _ hSw; clear hSw; (try simp only [List.getElem_toArray, List.getElem_cons_zero, List.getElem_cons_succ]); go_simp; try with_reducible rfl)
  (try simp only [List.getElem_toArray, List.getElem_cons_zero, List.getElem_cons_succ, Act.put, List.setIfInBounds_toArray, List.set_cons_zero, List.set_cons_succ])
  refine wpTree_pure (v := ?_) rfl (by rfl) ?_ (fun _ _ _ h => h) ?_
  rotate_left
  focus (intro w'; (try simp only [List.getElem_toArray, List.getElem_cons_zero, List.getElem_cons_succ]); go_simp; try with_reducible rfl)
  (try simp only [List.getElem_toArray, List.getElem_cons_zero, List.getElem_cons_succ, Act.put, List.setIfInBounds_toArray, List.set_cons_zero, List.set_cons_succ])
  refine wpTree_pure (v := ?_) rfl (by rfl) ?_ (fun _ _ _ h => h) ?_
  rotate_left
  focus (intro w'; (try simp only [List.getElem_toArray, List.getElem_cons_zero, List.getElem_cons_succ]); go_simp; try with_reducible rfl)
  (try simp only [List.getElem_toArray, List.getElem_cons_zero, List.getElem_cons_succ, Act.put, List.setIfInBounds_toArray, List.set_cons_zero, List.set_cons_succ])
  refine wpTree_take (v := ?_) rfl (by rfl) ?_ (fun _ _ _ h => h) ?_
  rotate_left
  focus (intro w' hSw; obtain ⟨x0, x1, x2, x3, x4, x5⟩ := hcl.out _ hSw; clear hSw; (try simp only [List.getElem_toArray, List.getElem_cons_zero, List.getElem_cons_succ]); go_simp; try with_reducible rfl)
  (try simp only [List.getElem_toArray, List.getElem_cons_zero, List.getElem_cons_succ, Act.put, List.setIfInBounds_toArray, List.set_cons_zero, List.set_cons_succ])
  refine wpTree_do rfl (by rfl) ?_
  (try simp only [List.getElem_toArray, List.getElem_cons_zero, List.getElem_cons_succ])
  go_simp
  go_at_call 53
  (with_reducible refine (cA'.out _ hSd).mono ?_)
  rintro e2 wc ⟨rfl, hbc⟩
  have hSc := hSd.trans (hbc.mono hSd.size)
  refine ⟨by intros; first | exact hSc | simpa using hSc, ?_⟩
  (try simp only [List.getElem_toArray, List.getElem_cons_zero, List.getElem_cons_succ, Act.put, List.setIfInBounds_toArray, List.set_cons_zero, List.set_cons_succ])
  refine wpTree_do rfl (by rfl) ?_
  (try simp only [List.getElem_toArray, List.getElem_cons_zero, List.getElem_cons_succ])
  go_simp
  go_at_call 53
  (with_reducible refine (cB'.out _ hSc).mono ?_)
  rintro e2 we ⟨rfl, hbe⟩
  have hSe := hSc.trans (hbe.mono hSc.size)
  refine ⟨by intros; first | exact hSe | simpa using hSe, ?_⟩
  (try simp only [List.getElem_toArray, List.getElem_cons_zero, List.getElem_cons_succ, Act.put, List.setIfInBounds_toArray, List.set_cons_zero, List.set_cons_succ])
  refine wpTree_pure (v := ?_) rfl (by rfl) ?_ (fun _ _ _ h => h) ?_
  rotate_left
  focus (intro w'; (try simp only [List.getElem_toArray, List.getElem_cons_zero, List.getElem_cons_succ]); go_simp; try with_reducible rfl)
  (try simp only [List.getElem_toArray, List.getElem_cons_zero, List.getElem_cons_succ, Act.put, List.setIfInBounds_toArray, List.set_cons_zero, List.set_cons_succ])
  refine wpTree_pure (v := ?_) rfl (by rfl) ?_ (fun _ _ _ h => h) ?_
  rotate_left
  focus (intro w'; (try simp only [List.getElem_toArray, List.getElem_cons_zero, List.getElem_cons_succ]); go_simp; try with_reducible rfl)
  (try simp only [List.getElem_toArray, List.getElem_cons_zero, List.getElem_cons_succ, Act.put, List.setIfInBounds_toArray, List.set_cons_zero, List.set_cons_succ])
  (try unfold wpTree)
  go_wp2
  go_ret
  exact ⟨by rw [hE.out]; rfl, hb0'.out.trans (hSe.mono hb0'.out.size)⟩
end Go.Proofs.YthojfhdenfhjfaaDoor
end
section
namespace Go.Proofs.YthojfhdenfhjfaaDoor
open Go.RowKit Go.Lib Go.Shelf

set_option maxHeartbeats 2000000 in
set_option maxRecDepth 100000 in
theorem rises_any (hb mb : Nat) (fs : List Face) (fa : Option Addr) (fc : Nat) (v1 : Value) (e : Edg) (i : Nat) (w : World) (hH : HsX w hb mb fs fa fc v1) (hi : i < fs.length) (hei : e.face = (i : Int)) (hg : argB (fs.getD i default) = true) (ha : SmP e.s.a 1000000) (hbp : SmP e.s.b 1000000) :
    Calls Tryd.prog 109 #[.pointer (some ⟨hb, 0, none⟩), edgVal e] w fun e' w' => e' = .returned (.int .i64 (risesF (fs.getD i default) e.s)) ∧ Below w.heap.size w w' := by
  have hfx := fun V (hV : HsX V hb mb fs fa fc v1) => hV.fx.at7 hi
  obtain ⟨f, hf⟩ : ∃ f, f = fs.getD i default := ⟨_, rfl⟩
  rw [← hf] at hg hfx ⊢
  have rf := arg_run hg
  have hE : risesF f e.s = f.rise * crossP (wayS e.s) (upV f.side) := rfl
  have hws := way_small ha hbp
  have hus : SmP (upV f.side) 4000000 := by unfold upV SmP; repeat' split
                                            all_goals (refine ⟨?_, ?_, ?_, ?_⟩ <;> decide)
  have hcr : -4000000 ≤ crossP (wayS e.s) (upV f.side) ∧ crossP (wayS e.s) (upV f.side) ≤ 4000000 := by
    obtain ⟨q1, q2, q3, q4⟩ := hws
    unfold crossP upV
    repeat' split
    all_goals (simp only [Int.mul_zero, Int.mul_one, Int.mul_neg]; omega)
  obtain ⟨cr, hcre⟩ : ∃ x, x = crossP (wayS e.s) (upV f.side) := ⟨_, rfl⟩
  rw [← hcre] at hE hcr
  have m1 := mul_in (a := f.rise) (b := cr) (n := 100) (m := 4000000) (by omega) hcr
  have w1 : IntKind.i64.wrap (f.rise * cr) = f.rise * cr := IntWalk.i64_in _ (by omega)
  have c96 : Hid (∀ V, Calls Tryd.prog 96 #[.agg (sdCells e.s)] V fun e' w' => e' = .returned (pntVal (wayS e.s)) ∧ Below V.heap.size V w') := fun V => way_any e.s V ha hbp
  have c69 : Hid (∀ V, Calls Tryd.prog 69 #[pntVal (wayS e.s), pntVal (upV f.side)] V fun e' w' => e' = .returned (.int .i64 cr) ∧ Below V.heap.size V w') := fun V => by rw [hcre]; exact cross_any _ _ V hws hus
  obtain ⟨ws, hws2⟩ : ∃ x, x = wayS e.s := ⟨_, rfl⟩
  rw [← hws2] at c96 c69
  obtain ⟨W0, hW0⟩ : ∃ W0, W0 = w.alloc (.cells (edgCells e) 129) := ⟨_, rfl⟩
  have hb0 : Below w.heap.size w W0 := by rw [hW0]; exact (Below.refl _ w).alloc (Nat.le_refl _) _
  have hs0 : Hid (W0.heap.size = w.heap.size + 1) := by unfold Hid; rw [hW0]; exact World.size_alloc _ _
  have hH0 := hH.later hb0
  have hpb : W0.heap[w.heap.size]? = some (.cells (edgCells e) 129 (0, 0)) := by rw [hW0]; exact heap_new _ _ _ rfl
  obtain ⟨ad, hA, _⟩ := hfx W0 hH0
  subst hA
  have hcl : Hid (∀ V, Below W0.heap.size W0 V → V.cell? ⟨hb, 0, none⟩ = some (.slice (some ad) fs.length fc) ∧ (V.cell? ⟨w.heap.size, 0, none⟩ = some (.int .i64 (i : Int)) ∧ V.cell? ⟨w.heap.size, 1, none⟩ = some (.int .i64 e.number) ∧ V.cell? ⟨w.heap.size, 2, none⟩ = some (.int .i64 e.s.a.x) ∧ V.cell? ⟨w.heap.size, 3, none⟩ = some (.int .i64 e.s.a.y) ∧ V.cell? ⟨w.heap.size, 4, none⟩ = some (.int .i64 e.s.b.x) ∧ V.cell? ⟨w.heap.size, 5, none⟩ = some (.int .i64 e.s.b.y)) ∧
      V.cell? (ad.add (i * 7)) = some (.string f.name) ∧ V.cell? ⟨(ad.add (i * 7)).block, (ad.add (i * 7)).off + 1, none⟩ = some (.int .i64 f.side) ∧ V.cell? ⟨(ad.add (i * 7)).block, (ad.add (i * 7)).off + 2, none⟩ = some (.int .i64 f.foot) ∧ V.cell? ⟨(ad.add (i * 7)).block, (ad.add (i * 7)).off + 3, none⟩ = some (.int .i64 f.base) ∧ V.cell? ⟨(ad.add (i * 7)).block, (ad.add (i * 7)).off + 4, none⟩ = some (.int .i64 f.rise) ∧ V.cell? ⟨(ad.add (i * 7)).block, (ad.add (i * 7)).off + 5, none⟩ = some (.int .i64 f.run) ∧ V.cell? ⟨(ad.add (i * 7)).block, (ad.add (i * 7)).off + 6, none⟩ = some (.slice f.ca f.corners.length f.cc)) := fun V h => by
    have hV := hH0.later h
    obtain ⟨a1, e1, r⟩ := hfx V hV
    cases e1
    have := cells6 ((h.block _ (lt_block hpb)).trans hpb)
    rw [hei] at this
    exact ⟨(cells3 hV.c).1, this, r⟩
  have hfin : Hid (∀ V, Below W0.heap.size W0 V → V.heap[W0.heap.size]? = some (.cells (fCells f) 45 (0, 0)) → ∀ V', Below V.heap.size V V' → (V'.cell? ⟨w.heap.size, 2, none⟩ = some (.int .i64 e.s.a.x) ∧ V'.cell? ⟨w.heap.size, 3, none⟩ = some (.int .i64 e.s.a.y) ∧ V'.cell? ⟨w.heap.size, 4, none⟩ = some (.int .i64 e.s.b.x) ∧ V'.cell? ⟨w.heap.size, 5, none⟩ = some (.int .i64 e.s.b.y)) ∧ (V'.cell? ⟨W0.heap.size, 1, none⟩ = some (.int .i64 f.side) ∧ V'.cell? ⟨W0.heap.size, 4, none⟩ = some (.int .i64 f.rise)) ∧ FaX V') := fun V h hb2 V' h' => by
    have hBB := h.trans (h'.mono h.size)
    obtain ⟨_, _, q⟩ := (hcl.out V' hBB).2.1
    obtain ⟨_, y1, _, _, y4, _⟩ := cells7 ((h'.block _ (lt_block hb2)).trans hb2)
    exact ⟨q, ⟨y1, y4⟩, (hH0.later hBB).fl⟩
  have hb0' := Lib.hid hb0
  replace hE := Lib.hid hE
  clear hfx hb0 m1 hcr hws hus hH0
  replace hei := Lib.hid hei
  replace hf := Lib.hid hf
  replace hcre := Lib.hid hcre
  replace hws2 := Lib.hid hws2
  go_enter Tryd.func109, Tryd.ntmps109
  go_upto_region 1 with fail
  rw [← hW0]
  replace hW0 := Lib.hid hW0
  have hSd : Below W0.heap.size W0 W0.drew := (Below.refl _ _).drew
  refine wp_region_tree (fun V => Below W0.heap.size W0 V) (.pure 0 (.pure 1 (.pure 2 (.pure 3 (.read 4 (.pure 5 (.read 6 (.pure 7 (.read 8 (.one 9 (.one 10 .done))))))))))) [10] (by kernel_rfl) (by kernel_rfl) hSd ?_
  refine wpTree_pure (v := ?_) rfl (by rfl) ?_ (fun _ _ _ h => h) ?_
  rotate_left
  focus (intro w'; (try simp only [List.getElem_toArray, List.getElem_cons_zero, List.getElem_cons_succ]); go_simp; try with_reducible rfl)
  (try simp only [List.getElem_toArray, List.getElem_cons_zero, List.getElem_cons_succ, Act.put, List.setIfInBounds_toArray, List.set_cons_zero, List.set_cons_succ])
  refine wpTree_pure (v := ?_) rfl (by rfl) ?_ (fun _ _ _ h => h) ?_
  rotate_left
  focus (intro w'; (try simp only [List.getElem_toArray, List.getElem_cons_zero, List.getElem_cons_succ]); go_simp; try with_reducible rfl)
  (try simp only [List.getElem_toArray, List.getElem_cons_zero, List.getElem_cons_succ, Act.put, List.setIfInBounds_toArray, List.set_cons_zero, List.set_cons_succ])
  refine wpTree_pure (v := ?_) rfl (by rfl) ?_ (fun _ _ _ h => h) ?_
  rotate_left
  focus (intro w'; (try simp only [List.getElem_toArray, List.getElem_cons_zero, List.getElem_cons_succ]); go_simp; try with_reducible rfl)
  (try simp only [List.getElem_toArray, List.getElem_cons_zero, List.getElem_cons_succ, Act.put, List.setIfInBounds_toArray, List.set_cons_zero, List.set_cons_succ])
  refine wpTree_pure (v := ?_) rfl (by rfl) ?_ (fun _ _ _ h => h) ?_
  rotate_left
  focus (intro w'; (try simp only [List.getElem_toArray, List.getElem_cons_zero, List.getElem_cons_succ]); go_simp; try with_reducible rfl)
  (try simp only [List.getElem_toArray, List.getElem_cons_zero, List.getElem_cons_succ, Act.put, List.setIfInBounds_toArray, List.set_cons_zero, List.set_cons_succ])
  refine wpTree_take (v := ?_) rfl (by rfl) ?_ (fun _ _ _ h => h) ?_
  rotate_left
  focus (intro w' hSw; obtain ⟨z0, ⟨x0, x1, x2, x3, x4, x5⟩, y0, y1, y2, y3, y4, y5, y6⟩ := hcl.out _ hSw; clear hSw; (try simp only [List.getElem_toArray, List.getElem_cons_zero, List.getElem_cons_succ]); go_simp; try with_reducible rfl)
  (try simp only [List.getElem_toArray, List.getElem_cons_zero, List.getElem_cons_succ, Act.put, List.setIfInBounds_toArray, List.set_cons_zero, List.set_cons_succ])
  refine wpTree_pure (v := ?_) rfl (by rfl) ?_ (fun _ _ _ h => h) ?_
  rotate_left
  focus (intro w'; (try simp only [List.getElem_toArray, List.getElem_cons_zero, List.getElem_cons_succ]); go_simp; try with_reducible rfl)
  (try simp only [List.getElem_toArray, List.getElem_cons_zero, List.getElem_cons_succ, Act.put, List.setIfInBounds_toArray, List.set_cons_zero, List.set_cons_succ])
  refine wpTree_take (v := ?_) rfl (by rfl) ?_ (fun _ _ _ h => h) ?_
  rotate_left
  focus (intro w' hSw; obtain ⟨z0, ⟨x0, x1, x2, x3, x4, x5⟩, y0, y1, y2, y3, y4, y5, y6⟩ := hcl.out _ hSw; clear hSw; (try simp only [List.getElem_toArray, List.getElem_cons_zero, List.getElem_cons_succ]); go_simp; try with_reducible rfl)
  (try simp only [List.getElem_toArray, List.getElem_cons_zero, List.getElem_cons_succ, Act.put, List.setIfInBounds_toArray, List.set_cons_zero, List.set_cons_succ])
  refine wpTree_pure (v := ?_) rfl (by rfl) ?_ (fun _ _ _ h => h) ?_
  rotate_left
  focus (intro w'; (try simp only [List.getElem_toArray, List.getElem_cons_zero, List.getElem_cons_succ]); go_simp; try with_reducible rfl)
  (try simp only [List.getElem_toArray, List.getElem_cons_zero, List.getElem_cons_succ, Act.put, List.setIfInBounds_toArray, List.set_cons_zero, List.set_cons_succ])
  refine wpTree_take (v := ?_) rfl (by rfl) ?_ (fun _ _ _ h => h) ?_
  rotate_left
  focus (intro w' hSw; obtain ⟨z0, ⟨x0, x1, x2, x3, x4, x5⟩, y0, y1, y2, y3, y4, y5, y6⟩ := hcl.out _ hSw; clear hSw; (try simp only [List.getElem_toArray, List.getElem_cons_zero, List.getElem_cons_succ]); go_simp; try with_reducible rfl)
  (try simp only [List.getElem_toArray, List.getElem_cons_zero, List.getElem_cons_succ, Act.put, List.setIfInBounds_toArray, List.set_cons_zero, List.set_cons_succ])
  refine wpTree_do rfl (by rfl) ?_
  (try simp only [List.getElem_toArray, List.getElem_cons_zero, List.getElem_cons_succ])
  go_simp
  refine ⟨by intros; exact hSd.alloc (Nat.le_refl _) _, ?_⟩
  (try simp only [List.getElem_toArray, List.getElem_cons_zero, List.getElem_cons_succ, Act.put, List.setIfInBounds_toArray, List.set_cons_zero, List.set_cons_succ])
  refine wpTree_do rfl (by rfl) ?_
  (try simp only [List.getElem_toArray, List.getElem_cons_zero, List.getElem_cons_succ])
  go_simp
  (try simp only [List.getElem_toArray, List.getElem_cons_zero, List.getElem_cons_succ, Act.put, List.setIfInBounds_toArray, List.set_cons_zero, List.set_cons_succ])
  (try unfold wpTree)
  obtain ⟨W1, hW1⟩ : ∃ W1, W1 = (W0.alloc (.cells (fCells f) 45)).drew := ⟨_, rfl⟩
  rw [← hW1]
  have hS1 : Below W0.heap.size W0 W1 := by rw [hW1]; exact ((Below.refl _ W0).alloc (Nat.le_refl _) _).drew
  have hf1 : W1.heap[W0.heap.size]? = some (.cells (fCells f) 45 (0, 0)) := by rw [hW1]; exact heap_new _ _ _ rfl
  have hcl2 := Lib.hid (hfin.out W1 hS1 hf1)
  replace hW1 := Lib.hid hW1
  clear hcl hfin hSd
  go_upto_region 2 with fail
  have hSd : Below W1.heap.size W1 W1.drew := (Below.refl _ _).drew
  have hside : f.side = 1 ∨ f.side = 2 ∨ f.side = 3 ∨ f.side = 4 := by omega
  rcases hside with hk | hk | hk | hk
  · rw [hk, show upV 1 = ⟨0, 1⟩ by simp [upV]] at c69
    replace c69 := c69.out
    dsimp only [pntVal] at c69
    replace c69 := Lib.hid c69
    replace hk := Lib.hid hk
    refine wp_region_tree (fun V => Below W1.heap.size W1 V) (.pure 0 (.read 1 (.pure 2 (.read 3 (.pure 5 (.read 6 (.pure 7 (.pure 8 (.read 9 (.one 4 (.one 10 (.pure 11 (.pure 12 .done))))))))))))) [] (by kernel_rfl) (by kernel_rfl) hSd ?_
    refine wpTree_pure (v := ?_) rfl (by rfl) ?_ (fun _ _ _ h => h) ?_
    rotate_left
    focus (intro w'; (try simp only [List.getElem_toArray, List.getElem_cons_zero, List.getElem_cons_succ]); go_simp; try with_reducible rfl)
    (try simp only [List.getElem_toArray, List.getElem_cons_zero, List.getElem_cons_succ, Act.put, List.setIfInBounds_toArray, List.set_cons_zero, List.set_cons_succ])
    refine wpTree_take (v := ?_) rfl (by rfl) ?_ (fun _ _ _ h => h) ?_
    rotate_left
    focus (intro w' hSw; obtain ⟨⟨x2, x3, x4, x5⟩, ⟨y1, y4⟩, hF⟩ := hcl2.out _ hSw; rw [hk.out] at y1; obtain ⟨u0, u1, u2, u3⟩ := hF.s1; clear hF; clear hSw; (try simp only [List.getElem_toArray, List.getElem_cons_zero, List.getElem_cons_succ]); go_simp; try with_reducible rfl)
    (try simp only [List.getElem_toArray, List.getElem_cons_zero, List.getElem_cons_succ, Act.put, List.setIfInBounds_toArray, List.set_cons_zero, List.set_cons_succ])
    refine wpTree_pure (v := ?_) rfl (by rfl) ?_ (fun _ _ _ h => h) ?_
    rotate_left
    focus (intro w'; (try simp only [List.getElem_toArray, List.getElem_cons_zero, List.getElem_cons_succ]); go_simp; try with_reducible rfl)
    (try simp only [List.getElem_toArray, List.getElem_cons_zero, List.getElem_cons_succ, Act.put, List.setIfInBounds_toArray, List.set_cons_zero, List.set_cons_succ])
    refine wpTree_take (v := ?_) rfl (by rfl) ?_ (fun _ _ _ h => h) ?_
    rotate_left
    focus (intro w' hSw; obtain ⟨⟨x2, x3, x4, x5⟩, ⟨y1, y4⟩, hF⟩ := hcl2.out _ hSw; rw [hk.out] at y1; obtain ⟨u0, u1, u2, u3⟩ := hF.s1; clear hF; clear hSw; (try simp only [List.getElem_toArray, List.getElem_cons_zero, List.getElem_cons_succ]); go_simp; try with_reducible rfl)
    (try simp only [List.getElem_toArray, List.getElem_cons_zero, List.getElem_cons_succ, Act.put, List.setIfInBounds_toArray, List.set_cons_zero, List.set_cons_succ])
    refine wpTree_pure (v := ?_) rfl (by rfl) ?_ (fun _ _ _ h => h) ?_
    rotate_left
    focus (intro w'; (try simp only [List.getElem_toArray, List.getElem_cons_zero, List.getElem_cons_succ]); go_simp; try with_reducible rfl)
    (try simp only [List.getElem_toArray, List.getElem_cons_zero, List.getElem_cons_succ, Act.put, List.setIfInBounds_toArray, List.set_cons_zero, List.set_cons_succ])
    refine wpTree_take (v := ?_) rfl (by rfl) ?_ (fun _ _ _ h => h) ?_
    rotate_left
    focus (intro w' hSw; obtain ⟨⟨x2, x3, x4, x5⟩, ⟨y1, y4⟩, hF⟩ := hcl2.out _ hSw; rw [hk.out] at y1; obtain ⟨u0, u1, u2, u3⟩ := hF.s1; clear hF; clear hSw; (try simp only [List.getElem_toArray, List.getElem_cons_zero, List.getElem_cons_succ]); go_simp; try with_reducible rfl)
    (try simp only [List.getElem_toArray, List.getElem_cons_zero, List.getElem_cons_succ, Act.put, List.setIfInBounds_toArray, List.set_cons_zero, List.set_cons_succ])
    refine wpTree_pure (v := ?_) rfl (by rfl) ?_ (fun _ _ _ h => h) ?_
    rotate_left
    focus (intro w'; (try simp only [List.getElem_toArray, List.getElem_cons_zero, List.getElem_cons_succ]); go_simp; try with_reducible rfl)
    (try simp only [List.getElem_toArray, List.getElem_cons_zero, List.getElem_cons_succ, Act.put, List.setIfInBounds_toArray, List.set_cons_zero, List.set_cons_succ])
    refine wpTree_pure (v := ?_) rfl (by rfl) ?_ (fun _ _ _ h => h) ?_
    rotate_left
    focus (intro w'; (try simp only [List.getElem_toArray, List.getElem_cons_zero, List.getElem_cons_succ]); go_simp; try with_reducible rfl)
    (try simp only [List.getElem_toArray, List.getElem_cons_zero, List.getElem_cons_succ, Act.put, List.setIfInBounds_toArray, List.set_cons_zero, List.set_cons_succ])
    refine wpTree_take (v := ?_) rfl (by rfl) ?_ (fun _ _ _ h => h) ?_
    rotate_left
    focus (intro w' hSw; obtain ⟨⟨x2, x3, x4, x5⟩, ⟨y1, y4⟩, hF⟩ := hcl2.out _ hSw; rw [hk.out] at y1; obtain ⟨u0, u1, u2, u3⟩ := hF.s1; clear hF; clear hSw; (try simp only [List.getElem_toArray, List.getElem_cons_zero, List.getElem_cons_succ]); go_simp; try with_reducible rfl)
    (try simp only [List.getElem_toArray, List.getElem_cons_zero, List.getElem_cons_succ, Act.put, List.setIfInBounds_toArray, List.set_cons_zero, List.set_cons_succ])
    refine wpTree_do rfl (by rfl) ?_
    (try simp only [List.getElem_toArray, List.getElem_cons_zero, List.getElem_cons_succ])
    go_simp
    go_at_call 96
    (with_reducible refine (c96.out _).mono ?_)
    rintro e2 wc ⟨rfl, hbc⟩
    have hSc := hSd.trans (hbc.mono hSd.size)
    refine ⟨by intros; first | exact hSc | simpa using hSc, ?_⟩
    (try simp only [List.getElem_toArray, List.getElem_cons_zero, List.getElem_cons_succ, Act.put, List.setIfInBounds_toArray, List.set_cons_zero, List.set_cons_succ])
    refine wpTree_do rfl (by rfl) ?_
    (try simp only [List.getElem_toArray, List.getElem_cons_zero, List.getElem_cons_succ])
    go_simp
    go_at_call 69
    (with_reducible refine (c69.out _).mono ?_)
    rintro e2 we ⟨rfl, hbe⟩
    have hSe := hSc.trans (hbe.mono hSc.size)
    refine ⟨by intros; first | exact hSe | simpa using hSe, ?_⟩
    (try simp only [List.getElem_toArray, List.getElem_cons_zero, List.getElem_cons_succ, Act.put, List.setIfInBounds_toArray, List.set_cons_zero, List.set_cons_succ])
    refine wpTree_pure (v := ?_) rfl (by rfl) ?_ (fun _ _ _ h => h) ?_
    rotate_left
    focus (intro w'; (try simp only [List.getElem_toArray, List.getElem_cons_zero, List.getElem_cons_succ]); go_simp; try with_reducible rfl)
    (try simp only [List.getElem_toArray, List.getElem_cons_zero, List.getElem_cons_succ, Act.put, List.setIfInBounds_toArray, List.set_cons_zero, List.set_cons_succ])
    refine wpTree_pure (v := ?_) rfl (by rfl) ?_ (fun _ _ _ h => h) ?_
    rotate_left
    focus (intro w'; (try simp only [List.getElem_toArray, List.getElem_cons_zero, List.getElem_cons_succ]); go_simp; try with_reducible rfl)
    (try simp only [List.getElem_toArray, List.getElem_cons_zero, List.getElem_cons_succ, Act.put, List.setIfInBounds_toArray, List.set_cons_zero, List.set_cons_succ])
    (try unfold wpTree)
    go_wp2
    go_ret
    exact ⟨by rw [hE.out]; rfl, hb0'.out.trans ((hS1.trans (hSe.mono hS1.size)).mono hb0'.out.size)⟩
  · rw [hk, show upV 2 = ⟨-1, 0⟩ by simp [upV]] at c69
    replace c69 := c69.out
    dsimp only [pntVal] at c69
    replace c69 := Lib.hid c69
    replace hk := Lib.hid hk
    refine wp_region_tree (fun V => Below W1.heap.size W1 V) (.pure 0 (.read 1 (.pure 2 (.read 3 (.pure 5 (.read 6 (.pure 7 (.pure 8 (.read 9 (.one 4 (.one 10 (.pure 11 (.pure 12 .done))))))))))))) [] (by kernel_rfl) (by kernel_rfl) hSd ?_
    refine wpTree_pure (v := ?_) rfl (by rfl) ?_ (fun _ _ _ h => h) ?_
    rotate_left
    focus (intro w'; (try simp only [List.getElem_toArray, List.getElem_cons_zero, List.getElem_cons_succ]); go_simp; try with_reducible rfl)
    (try simp only [List.getElem_toArray, List.getElem_cons_zero, List.getElem_cons_succ, Act.put, List.setIfInBounds_toArray, List.set_cons_zero, List.set_cons_succ])
    refine wpTree_take (v := ?_) rfl (by rfl) ?_ (fun _ _ _ h => h) ?_
    rotate_left
    focus (intro w' hSw; obtain ⟨⟨x2, x3, x4, x5⟩, ⟨y1, y4⟩, hF⟩ := hcl2.out _ hSw; rw [hk.out] at y1; obtain ⟨u0, u1, u2, u3⟩ := hF.s2; clear hF; clear hSw; (try simp only [List.getElem_toArray, List.getElem_cons_zero, List.getElem_cons_succ]); go_simp; try with_reducible rfl)
    (try simp only [List.getElem_toArray, List.getElem_cons_zero, List.getElem_cons_succ, Act.put, List.setIfInBounds_toArray, List.set_cons_zero, List.set_cons_succ])
    refine wpTree_pure (v := ?_) rfl (by rfl) ?_ (fun _ _ _ h => h) ?_
    rotate_left
    focus (intro w'; (try simp only [List.getElem_toArray, List.getElem_cons_zero, List.getElem_cons_succ]); go_simp; try with_reducible rfl)
    (try simp only [List.getElem_toArray, List.getElem_cons_zero, List.getElem_cons_succ, Act.put, List.setIfInBounds_toArray, List.set_cons_zero, List.set_cons_succ])
    refine wpTree_take (v := ?_) rfl (by rfl) ?_ (fun _ _ _ h => h) ?_
    rotate_left
    focus (intro w' hSw; obtain ⟨⟨x2, x3, x4, x5⟩, ⟨y1, y4⟩, hF⟩ := hcl2.out _ hSw; rw [hk.out] at y1; obtain ⟨u0, u1, u2, u3⟩ := hF.s2; clear hF; clear hSw; (try simp only [List.getElem_toArray, List.getElem_cons_zero, List.getElem_cons_succ]); go_simp; try with_reducible rfl)
    (try simp only [List.getElem_toArray, List.getElem_cons_zero, List.getElem_cons_succ, Act.put, List.setIfInBounds_toArray, List.set_cons_zero, List.set_cons_succ])
    refine wpTree_pure (v := ?_) rfl (by rfl) ?_ (fun _ _ _ h => h) ?_
    rotate_left
    focus (intro w'; (try simp only [List.getElem_toArray, List.getElem_cons_zero, List.getElem_cons_succ]); go_simp; try with_reducible rfl)
    (try simp only [List.getElem_toArray, List.getElem_cons_zero, List.getElem_cons_succ, Act.put, List.setIfInBounds_toArray, List.set_cons_zero, List.set_cons_succ])
    refine wpTree_take (v := ?_) rfl (by rfl) ?_ (fun _ _ _ h => h) ?_
    rotate_left
    focus (intro w' hSw; obtain ⟨⟨x2, x3, x4, x5⟩, ⟨y1, y4⟩, hF⟩ := hcl2.out _ hSw; rw [hk.out] at y1; obtain ⟨u0, u1, u2, u3⟩ := hF.s2; clear hF; clear hSw; (try simp only [List.getElem_toArray, List.getElem_cons_zero, List.getElem_cons_succ]); go_simp; try with_reducible rfl)
    (try simp only [List.getElem_toArray, List.getElem_cons_zero, List.getElem_cons_succ, Act.put, List.setIfInBounds_toArray, List.set_cons_zero, List.set_cons_succ])
    refine wpTree_pure (v := ?_) rfl (by rfl) ?_ (fun _ _ _ h => h) ?_
    rotate_left
    focus (intro w'; (try simp only [List.getElem_toArray, List.getElem_cons_zero, List.getElem_cons_succ]); go_simp; try with_reducible rfl)
    (try simp only [List.getElem_toArray, List.getElem_cons_zero, List.getElem_cons_succ, Act.put, List.setIfInBounds_toArray, List.set_cons_zero, List.set_cons_succ])
    refine wpTree_pure (v := ?_) rfl (by rfl) ?_ (fun _ _ _ h => h) ?_
    rotate_left
    focus (intro w'; (try simp only [List.getElem_toArray, List.getElem_cons_zero, List.getElem_cons_succ]); go_simp; try with_reducible rfl)
    (try simp only [List.getElem_toArray, List.getElem_cons_zero, List.getElem_cons_succ, Act.put, List.setIfInBounds_toArray, List.set_cons_zero, List.set_cons_succ])
    refine wpTree_take (v := ?_) rfl (by rfl) ?_ (fun _ _ _ h => h) ?_
    rotate_left
    focus (intro w' hSw; obtain ⟨⟨x2, x3, x4, x5⟩, ⟨y1, y4⟩, hF⟩ := hcl2.out _ hSw; rw [hk.out] at y1; obtain ⟨u0, u1, u2, u3⟩ := hF.s2; clear hF; clear hSw; (try simp only [List.getElem_toArray, List.getElem_cons_zero, List.getElem_cons_succ]); go_simp; try with_reducible rfl)
    (try simp only [List.getElem_toArray, List.getElem_cons_zero, List.getElem_cons_succ, Act.put, List.setIfInBounds_toArray, List.set_cons_zero, List.set_cons_succ])
    refine wpTree_do rfl (by rfl) ?_
    (try simp only [List.getElem_toArray, List.getElem_cons_zero, List.getElem_cons_succ])
    go_simp
    go_at_call 96
    (with_reducible refine (c96.out _).mono ?_)
    rintro e2 wc ⟨rfl, hbc⟩
    have hSc := hSd.trans (hbc.mono hSd.size)
    refine ⟨by intros; first | exact hSc | simpa using hSc, ?_⟩
    (try simp only [List.getElem_toArray, List.getElem_cons_zero, List.getElem_cons_succ, Act.put, List.setIfInBounds_toArray, List.set_cons_zero, List.set_cons_succ])
    refine wpTree_do rfl (by rfl) ?_
    (try simp only [List.getElem_toArray, List.getElem_cons_zero, List.getElem_cons_succ])
    go_simp
    go_at_call 69
    (with_reducible refine (c69.out _).mono ?_)
    rintro e2 we ⟨rfl, hbe⟩
    have hSe := hSc.trans (hbe.mono hSc.size)
    refine ⟨by intros; first | exact hSe | simpa using hSe, ?_⟩
    (try simp only [List.getElem_toArray, List.getElem_cons_zero, List.getElem_cons_succ, Act.put, List.setIfInBounds_toArray, List.set_cons_zero, List.set_cons_succ])
    refine wpTree_pure (v := ?_) rfl (by rfl) ?_ (fun _ _ _ h => h) ?_
    rotate_left
    focus (intro w'; (try simp only [List.getElem_toArray, List.getElem_cons_zero, List.getElem_cons_succ]); go_simp; try with_reducible rfl)
    (try simp only [List.getElem_toArray, List.getElem_cons_zero, List.getElem_cons_succ, Act.put, List.setIfInBounds_toArray, List.set_cons_zero, List.set_cons_succ])
    refine wpTree_pure (v := ?_) rfl (by rfl) ?_ (fun _ _ _ h => h) ?_
    rotate_left
    focus (intro w'; (try simp only [List.getElem_toArray, List.getElem_cons_zero, List.getElem_cons_succ]); go_simp; try with_reducible rfl)
    (try simp only [List.getElem_toArray, List.getElem_cons_zero, List.getElem_cons_succ, Act.put, List.setIfInBounds_toArray, List.set_cons_zero, List.set_cons_succ])
    (try unfold wpTree)
    go_wp2
    go_ret
    exact ⟨by rw [hE.out]; rfl, hb0'.out.trans ((hS1.trans (hSe.mono hS1.size)).mono hb0'.out.size)⟩
  · rw [hk, show upV 3 = ⟨0, -1⟩ by simp [upV]] at c69
    replace c69 := c69.out
    dsimp only [pntVal] at c69
    replace c69 := Lib.hid c69
    replace hk := Lib.hid hk
    refine wp_region_tree (fun V => Below W1.heap.size W1 V) (.pure 0 (.read 1 (.pure 2 (.read 3 (.pure 5 (.read 6 (.pure 7 (.pure 8 (.read 9 (.one 4 (.one 10 (.pure 11 (.pure 12 .done))))))))))))) [] (by kernel_rfl) (by kernel_rfl) hSd ?_
    refine wpTree_pure (v := ?_) rfl (by rfl) ?_ (fun _ _ _ h => h) ?_
    rotate_left
    focus (intro w'; (try simp only [List.getElem_toArray, List.getElem_cons_zero, List.getElem_cons_succ]); go_simp; try with_reducible rfl)
    (try simp only [List.getElem_toArray, List.getElem_cons_zero, List.getElem_cons_succ, Act.put, List.setIfInBounds_toArray, List.set_cons_zero, List.set_cons_succ])
    refine wpTree_take (v := ?_) rfl (by rfl) ?_ (fun _ _ _ h => h) ?_
    rotate_left
    focus (intro w' hSw; obtain ⟨⟨x2, x3, x4, x5⟩, ⟨y1, y4⟩, hF⟩ := hcl2.out _ hSw; rw [hk.out] at y1; obtain ⟨u0, u1, u2, u3⟩ := hF.s3; clear hF; clear hSw; (try simp only [List.getElem_toArray, List.getElem_cons_zero, List.getElem_cons_succ]); go_simp; try with_reducible rfl)
    (try simp only [List.getElem_toArray, List.getElem_cons_zero, List.getElem_cons_succ, Act.put, List.setIfInBounds_toArray, List.set_cons_zero, List.set_cons_succ])
    refine wpTree_pure (v := ?_) rfl (by rfl) ?_ (fun _ _ _ h => h) ?_
    rotate_left
    focus (intro w'; (try simp only [List.getElem_toArray, List.getElem_cons_zero, List.getElem_cons_succ]); go_simp; try with_reducible rfl)
    (try simp only [List.getElem_toArray, List.getElem_cons_zero, List.getElem_cons_succ, Act.put, List.setIfInBounds_toArray, List.set_cons_zero, List.set_cons_succ])
    refine wpTree_take (v := ?_) rfl (by rfl) ?_ (fun _ _ _ h => h) ?_
    rotate_left
    focus (intro w' hSw; obtain ⟨⟨x2, x3, x4, x5⟩, ⟨y1, y4⟩, hF⟩ := hcl2.out _ hSw; rw [hk.out] at y1; obtain ⟨u0, u1, u2, u3⟩ := hF.s3; clear hF; clear hSw; (try simp only [List.getElem_toArray, List.getElem_cons_zero, List.getElem_cons_succ]); go_simp; try with_reducible rfl)
    (try simp only [List.getElem_toArray, List.getElem_cons_zero, List.getElem_cons_succ, Act.put, List.setIfInBounds_toArray, List.set_cons_zero, List.set_cons_succ])
    refine wpTree_pure (v := ?_) rfl (by rfl) ?_ (fun _ _ _ h => h) ?_
    rotate_left
    focus (intro w'; (try simp only [List.getElem_toArray, List.getElem_cons_zero, List.getElem_cons_succ]); go_simp; try with_reducible rfl)
    (try simp only [List.getElem_toArray, List.getElem_cons_zero, List.getElem_cons_succ, Act.put, List.setIfInBounds_toArray, List.set_cons_zero, List.set_cons_succ])
    refine wpTree_take (v := ?_) rfl (by rfl) ?_ (fun _ _ _ h => h) ?_
    rotate_left
    focus (intro w' hSw; obtain ⟨⟨x2, x3, x4, x5⟩, ⟨y1, y4⟩, hF⟩ := hcl2.out _ hSw; rw [hk.out] at y1; obtain ⟨u0, u1, u2, u3⟩ := hF.s3; clear hF; clear hSw; (try simp only [List.getElem_toArray, List.getElem_cons_zero, List.getElem_cons_succ]); go_simp; try with_reducible rfl)
    (try simp only [List.getElem_toArray, List.getElem_cons_zero, List.getElem_cons_succ, Act.put, List.setIfInBounds_toArray, List.set_cons_zero, List.set_cons_succ])
    refine wpTree_pure (v := ?_) rfl (by rfl) ?_ (fun _ _ _ h => h) ?_
    rotate_left
    focus (intro w'; (try simp only [List.getElem_toArray, List.getElem_cons_zero, List.getElem_cons_succ]); go_simp; try with_reducible rfl)
    (try simp only [List.getElem_toArray, List.getElem_cons_zero, List.getElem_cons_succ, Act.put, List.setIfInBounds_toArray, List.set_cons_zero, List.set_cons_succ])
    refine wpTree_pure (v := ?_) rfl (by rfl) ?_ (fun _ _ _ h => h) ?_
    rotate_left
    focus (intro w'; (try simp only [List.getElem_toArray, List.getElem_cons_zero, List.getElem_cons_succ]); go_simp; try with_reducible rfl)
    (try simp only [List.getElem_toArray, List.getElem_cons_zero, List.getElem_cons_succ, Act.put, List.setIfInBounds_toArray, List.set_cons_zero, List.set_cons_succ])
    refine wpTree_take (v := ?_) rfl (by rfl) ?_ (fun _ _ _ h => h) ?_
    rotate_left
    focus (intro w' hSw; obtain ⟨⟨x2, x3, x4, x5⟩, ⟨y1, y4⟩, hF⟩ := hcl2.out _ hSw; rw [hk.out] at y1; obtain ⟨u0, u1, u2, u3⟩ := hF.s3; clear hF; clear hSw; (try simp only [List.getElem_toArray, List.getElem_cons_zero, List.getElem_cons_succ]); go_simp; try with_reducible rfl)
    (try simp only [List.getElem_toArray, List.getElem_cons_zero, List.getElem_cons_succ, Act.put, List.setIfInBounds_toArray, List.set_cons_zero, List.set_cons_succ])
    refine wpTree_do rfl (by rfl) ?_
    (try simp only [List.getElem_toArray, List.getElem_cons_zero, List.getElem_cons_succ])
    go_simp
    go_at_call 96
    (with_reducible refine (c96.out _).mono ?_)
    rintro e2 wc ⟨rfl, hbc⟩
    have hSc := hSd.trans (hbc.mono hSd.size)
    refine ⟨by intros; first | exact hSc | simpa using hSc, ?_⟩
    (try simp only [List.getElem_toArray, List.getElem_cons_zero, List.getElem_cons_succ, Act.put, List.setIfInBounds_toArray, List.set_cons_zero, List.set_cons_succ])
    refine wpTree_do rfl (by rfl) ?_
    (try simp only [List.getElem_toArray, List.getElem_cons_zero, List.getElem_cons_succ])
    go_simp
    go_at_call 69
    (with_reducible refine (c69.out _).mono ?_)
    rintro e2 we ⟨rfl, hbe⟩
    have hSe := hSc.trans (hbe.mono hSc.size)
    refine ⟨by intros; first | exact hSe | simpa using hSe, ?_⟩
    (try simp only [List.getElem_toArray, List.getElem_cons_zero, List.getElem_cons_succ, Act.put, List.setIfInBounds_toArray, List.set_cons_zero, List.set_cons_succ])
    refine wpTree_pure (v := ?_) rfl (by rfl) ?_ (fun _ _ _ h => h) ?_
    rotate_left
    focus (intro w'; (try simp only [List.getElem_toArray, List.getElem_cons_zero, List.getElem_cons_succ]); go_simp; try with_reducible rfl)
    (try simp only [List.getElem_toArray, List.getElem_cons_zero, List.getElem_cons_succ, Act.put, List.setIfInBounds_toArray, List.set_cons_zero, List.set_cons_succ])
    refine wpTree_pure (v := ?_) rfl (by rfl) ?_ (fun _ _ _ h => h) ?_
    rotate_left
    focus (intro w'; (try simp only [List.getElem_toArray, List.getElem_cons_zero, List.getElem_cons_succ]); go_simp; try with_reducible rfl)
    (try simp only [List.getElem_toArray, List.getElem_cons_zero, List.getElem_cons_succ, Act.put, List.setIfInBounds_toArray, List.set_cons_zero, List.set_cons_succ])
    (try unfold wpTree)
    go_wp2
    go_ret
    exact ⟨by rw [hE.out]; rfl, hb0'.out.trans ((hS1.trans (hSe.mono hS1.size)).mono hb0'.out.size)⟩
  · rw [hk, show upV 4 = ⟨1, 0⟩ by simp [upV]] at c69
    replace c69 := c69.out
    dsimp only [pntVal] at c69
    replace c69 := Lib.hid c69
    replace hk := Lib.hid hk
    refine wp_region_tree (fun V => Below W1.heap.size W1 V) (.pure 0 (.read 1 (.pure 2 (.read 3 (.pure 5 (.read 6 (.pure 7 (.pure 8 (.read 9 (.one 4 (.one 10 (.pure 11 (.pure 12 .done))))))))))))) [] (by kernel_rfl) (by kernel_rfl) hSd ?_
    refine wpTree_pure (v := ?_) rfl (by rfl) ?_ (fun _ _ _ h => h) ?_
    rotate_left
    focus (intro w'; (try simp only [List.getElem_toArray, List.getElem_cons_zero, List.getElem_cons_succ]); go_simp; try with_reducible rfl)
    (try simp only [List.getElem_toArray, List.getElem_cons_zero, List.getElem_cons_succ, Act.put, List.setIfInBounds_toArray, List.set_cons_zero, List.set_cons_succ])
    refine wpTree_take (v := ?_) rfl (by rfl) ?_ (fun _ _ _ h => h) ?_
    rotate_left
    focus (intro w' hSw; obtain ⟨⟨x2, x3, x4, x5⟩, ⟨y1, y4⟩, hF⟩ := hcl2.out _ hSw; rw [hk.out] at y1; obtain ⟨u0, u1, u2, u3⟩ := hF.s4; clear hF; clear hSw; (try simp only [List.getElem_toArray, List.getElem_cons_zero, List.getElem_cons_succ]); go_simp; try with_reducible rfl)
    (try simp only [List.getElem_toArray, List.getElem_cons_zero, List.getElem_cons_succ, Act.put, List.setIfInBounds_toArray, List.set_cons_zero, List.set_cons_succ])
    refine wpTree_pure (v := ?_) rfl (by rfl) ?_ (fun _ _ _ h => h) ?_
    rotate_left
    focus (intro w'; (try simp only [List.getElem_toArray, List.getElem_cons_zero, List.getElem_cons_succ]); go_simp; try with_reducible rfl)
    (try simp only [List.getElem_toArray, List.getElem_cons_zero, List.getElem_cons_succ, Act.put, List.setIfInBounds_toArray, List.set_cons_zero, List.set_cons_succ])
    refine wpTree_take (v := ?_) rfl (by rfl) ?_ (fun _ _ _ h => h) ?_
    rotate_left
    focus (intro w' hSw; obtain ⟨⟨x2, x3, x4, x5⟩, ⟨y1, y4⟩, hF⟩ := hcl2.out _ hSw; rw [hk.out] at y1; obtain ⟨u0, u1, u2, u3⟩ := hF.s4; clear hF; clear hSw; (try simp only [List.getElem_toArray, List.getElem_cons_zero, List.getElem_cons_succ]); go_simp; try with_reducible rfl)
    (try simp only [List.getElem_toArray, List.getElem_cons_zero, List.getElem_cons_succ, Act.put, List.setIfInBounds_toArray, List.set_cons_zero, List.set_cons_succ])
    refine wpTree_pure (v := ?_) rfl (by rfl) ?_ (fun _ _ _ h => h) ?_
    rotate_left
    focus (intro w'; (try simp only [List.getElem_toArray, List.getElem_cons_zero, List.getElem_cons_succ]); go_simp; try with_reducible rfl)
    (try simp only [List.getElem_toArray, List.getElem_cons_zero, List.getElem_cons_succ, Act.put, List.setIfInBounds_toArray, List.set_cons_zero, List.set_cons_succ])
    refine wpTree_take (v := ?_) rfl (by rfl) ?_ (fun _ _ _ h => h) ?_
    rotate_left
    focus (intro w' hSw; obtain ⟨⟨x2, x3, x4, x5⟩, ⟨y1, y4⟩, hF⟩ := hcl2.out _ hSw; rw [hk.out] at y1; obtain ⟨u0, u1, u2, u3⟩ := hF.s4; clear hF; clear hSw; (try simp only [List.getElem_toArray, List.getElem_cons_zero, List.getElem_cons_succ]); go_simp; try with_reducible rfl)
    (try simp only [List.getElem_toArray, List.getElem_cons_zero, List.getElem_cons_succ, Act.put, List.setIfInBounds_toArray, List.set_cons_zero, List.set_cons_succ])
    refine wpTree_pure (v := ?_) rfl (by rfl) ?_ (fun _ _ _ h => h) ?_
    rotate_left
    focus (intro w'; (try simp only [List.getElem_toArray, List.getElem_cons_zero, List.getElem_cons_succ]); go_simp; try with_reducible rfl)
    (try simp only [List.getElem_toArray, List.getElem_cons_zero, List.getElem_cons_succ, Act.put, List.setIfInBounds_toArray, List.set_cons_zero, List.set_cons_succ])
    refine wpTree_pure (v := ?_) rfl (by rfl) ?_ (fun _ _ _ h => h) ?_
    rotate_left
    focus (intro w'; (try simp only [List.getElem_toArray, List.getElem_cons_zero, List.getElem_cons_succ]); go_simp; try with_reducible rfl)
    (try simp only [List.getElem_toArray, List.getElem_cons_zero, List.getElem_cons_succ, Act.put, List.setIfInBounds_toArray, List.set_cons_zero, List.set_cons_succ])
    refine wpTree_take (v := ?_) rfl (by rfl) ?_ (fun _ _ _ h => h) ?_
    rotate_left
    focus (intro w' hSw; obtain ⟨⟨x2, x3, x4, x5⟩, ⟨y1, y4⟩, hF⟩ := hcl2.out _ hSw; rw [hk.out] at y1; obtain ⟨u0, u1, u2, u3⟩ := hF.s4; clear hF; clear hSw; (try simp only [List.getElem_toArray, List.getElem_cons_zero, List.getElem_cons_succ]); go_simp; try with_reducible rfl)
    (try simp only [List.getElem_toArray, List.getElem_cons_zero, List.getElem_cons_succ, Act.put, List.setIfInBounds_toArray, List.set_cons_zero, List.set_cons_succ])
    refine wpTree_do rfl (by rfl) ?_
    (try simp only [List.getElem_toArray, List.getElem_cons_zero, List.getElem_cons_succ])
    go_simp
    go_at_call 96
    (with_reducible refine (c96.out _).mono ?_)
    rintro e2 wc ⟨rfl, hbc⟩
    have hSc := hSd.trans (hbc.mono hSd.size)
    refine ⟨by intros; first | exact hSc | simpa using hSc, ?_⟩
    (try simp only [List.getElem_toArray, List.getElem_cons_zero, List.getElem_cons_succ, Act.put, List.setIfInBounds_toArray, List.set_cons_zero, List.set_cons_succ])
    refine wpTree_do rfl (by rfl) ?_
    (try simp only [List.getElem_toArray, List.getElem_cons_zero, List.getElem_cons_succ])
    go_simp
    go_at_call 69
    (with_reducible refine (c69.out _).mono ?_)
    rintro e2 we ⟨rfl, hbe⟩
    have hSe := hSc.trans (hbe.mono hSc.size)
    refine ⟨by intros; first | exact hSe | simpa using hSe, ?_⟩
    (try simp only [List.getElem_toArray, List.getElem_cons_zero, List.getElem_cons_succ, Act.put, List.setIfInBounds_toArray, List.set_cons_zero, List.set_cons_succ])
    refine wpTree_pure (v := ?_) rfl (by rfl) ?_ (fun _ _ _ h => h) ?_
    rotate_left
    focus (intro w'; (try simp only [List.getElem_toArray, List.getElem_cons_zero, List.getElem_cons_succ]); go_simp; try with_reducible rfl)
    (try simp only [List.getElem_toArray, List.getElem_cons_zero, List.getElem_cons_succ, Act.put, List.setIfInBounds_toArray, List.set_cons_zero, List.set_cons_succ])
    refine wpTree_pure (v := ?_) rfl (by rfl) ?_ (fun _ _ _ h => h) ?_
    rotate_left
    focus (intro w'; (try simp only [List.getElem_toArray, List.getElem_cons_zero, List.getElem_cons_succ]); go_simp; try with_reducible rfl)
    (try simp only [List.getElem_toArray, List.getElem_cons_zero, List.getElem_cons_succ, Act.put, List.setIfInBounds_toArray, List.set_cons_zero, List.set_cons_succ])
    (try unfold wpTree)
    go_wp2
    go_ret
    exact ⟨by rw [hE.out]; rfl, hb0'.out.trans ((hS1.trans (hSe.mono hS1.size)).mono hb0'.out.size)⟩
end Go.Proofs.YthojfhdenfhjfaaDoor
end
