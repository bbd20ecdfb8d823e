/-
  Check: walked. PRINTED by genR16.py.
-/
import Derived.Test.YthojfhdenfhjfaaDoorRa02
import Derived.Test.YthojfhdenfhjfaaDoorRa05
import Derived.Test.YthojfhdenfhjfaaDoorRa07
import Derived.Test.YthojfhdenfhjfaaDoorRa08
set_option linter.all false
set_option linter.unusedVariables false
set_option linter.unusedSimpArgs false
namespace Go.Proofs.YthojfhdenfhjfaaDoor
open Go.RowKit Go.Lib Go.Shelf

attribute [local go_sem] Oper.semAt_some
/-- The roof's box and the result's. -/
structure CkX (w : World) (v0 v1 : Value) (W : World) : Prop where
  b : Below w.heap.size w W
  c0 : W.heap[w.heap.size]? = some (.cells #[v0, v1] 25 (0, 0))
  c1 : W.heap[w.heap.size + 1]? = some (.cells #[.int .i64 0] 27 (0, 0))
theorem CkX.make (w : World) (v0 v1 : Value) : CkX w v0 v1 ((w.alloc (.cells #[v0, v1] 25)).alloc (.cells #[.int .i64 0] 27)) :=
  ⟨((Below.refl _ w).alloc (Nat.le_refl _) _).alloc (by simp) _, heap_old _ _ _ _ (heap_new _ _ _ rfl), heap_new _ _ _ (by simp)⟩
theorem CkX.later {w W W' : World} {v0 v1 : Value} (h : CkX w v0 v1 W) (hb : Below W.heap.size W W') : CkX w v0 v1 W' :=
  ⟨h.b.trans (hb.mono h.b.size), (hb.block _ (lt_block h.c0)).trans h.c0, (hb.block _ (lt_block h.c1)).trans h.c1⟩
/-- The result is stored. -/
theorem CkX.ends {w W : World} {v0 v1 : Value} (h : CkX w v0 v1 W) (v : Value) : (W.setCell ⟨w.heap.size + 1, 0, none⟩ v).cell? ⟨w.heap.size + 1, 0, none⟩ = some v ∧ Below w.heap.size w (W.setCell ⟨w.heap.size + 1, 0, none⟩ v) :=
  ⟨cells1 (set_cells h.c1 v), h.b.setCell (p := ⟨w.heap.size + 1, 0, none⟩) (Nat.le_succ _) v⟩
theorem CkX.cells {w W : World} {v0 v1 : Value} (h : CkX w v0 v1 W) : (W.cell? ⟨w.heap.size, 0, none⟩ = some v0 ∧ W.cell? ⟨w.heap.size, 1, none⟩ = some v1) ∧ W.cell? ⟨w.heap.size + 1, 0, none⟩ = some (.int .i64 0) ∧ W.frozen? ⟨w.heap.size + 1, 0, none⟩ = false :=
  ⟨cells2 h.c0, cells1 h.c1, frozen_row h.c1 0⟩
/-- Where the result has been stored, and nothing else was turned that lay. -/
structure EndX (x : Nat) (W0 W : World) : Prop where
  b : Below x W0 W
  same : ∀ k, k < W0.heap.size → k ≠ x → W.heap[k]? = W0.heap[k]?
  c : W.heap[x]? = some (.cells #[.int .i64 9] 27 (0, 0))
  was : ∃ v, W0.heap[x]? = some (.cells #[v] 27 (0, 0))
theorem EndX.make {x : Nat} {W0 W : World} {v v0 : Value} (hb : Below W0.heap.size W0 W) (h0 : W0.heap[x]? = some (.cells #[v0] 27 (0, 0))) (h : W.heap[x]? = some (.cells #[v] 27 (0, 0))) : EndX x W0 (W.setCell ⟨x, 0, none⟩ (.int .i64 9)) :=
  ⟨(hb.mono (Nat.le_of_lt (lt_block h0))).setCell (p := ⟨x, 0, none⟩) (Nat.le_refl _) _, fun k hk hne => (Below.heap_setCell _ _ _ _ hne).trans (hb.block k hk), set_cells h _, v0, h0⟩
theorem EndX.from {x : Nat} {W0 W1 W : World} (h : EndX x W1 W) (hb : Below W0.heap.size W0 W1) {v : Value} (h0 : W0.heap[x]? = some (.cells #[v] 27 (0, 0))) : EndX x W0 W :=
  ⟨(hb.mono (Nat.le_of_lt (lt_block h0))).trans h.b, fun k hk hne => (h.same k (Nat.lt_of_lt_of_le hk hb.size) hne).trans (hb.block k hk), h.c, v, h0⟩
theorem EndX.others {x : Nat} {W0 W : World} (h : EndX x W0 W) : ∀ (k : Nat) (o : Obj), W0.heap[k]? = some o → o.isCells = false → W.heap[k]? = some o := fun k o hk ho => by
  refine (h.same k (lt_block hk) (fun e => ?_)).trans hk
  obtain ⟨v, hv⟩ := h.was
  subst e
  rw [hv] at hk
  cases hk
  cases ho
theorem EndX.keeps {x B : Nat} {W0 W : World} (h : EndX x W0 W) : KeepsFrom B W0 W := ⟨h.b.size, fun k o _ hk ho => h.others k o hk ho⟩
theorem ownFrom_end {β : Type} {x : Nat} {W0 : World} (hx : x < W0.heap.size) : OwnFrom W0.heap.size (fun (_ : β) W => EndX x W0 W) := fun s X Y row hs hg hr => by
  have hne : ∀ k, k < W0.heap.size → some k ≠ row := fun k hk e => by have := (hr k e.symm).1; omega
  have hsz := hs.b.size
  exact ⟨hs.b.grown hg (by omega) (fun k e => by have := (hr k e).1; omega), fun k hk hn => (hg.block k (by omega) (hne k hk)).trans (hs.same k hk hn), (hg.block x (by omega) (hne x hx)).trans hs.c, hs.was⟩
def noneS (b : List Pnt) {l : List Pnt} (pre : List (SideOf l)) : Prop := ∀ x ∈ pre, ((sidesL b).any fun t => crossB x.1.2 t) = false
theorem any_sides {l : List Pnt} {P : Sd → Bool} (h : ∀ z ∈ sidesS l, P z.1.2 = false) : (sidesL l).any P = false := by
  have e : sidesL l = (sidesS l).map fun x => x.1.2 := by
    have h := sdOf_all l
    unfold sdOf at h
    exact h.symm
  rw [e, List.any_map]
  exact List.any_eq_false.2 fun x hx => by
    have := h x hx
    simp only [Function.comp]
    rw [this]
    decide
theorem scope_none {l b : List Pnt} (h : noneS b (sidesS l)) : ((sidesL l).any fun s => (sidesL b).any fun t => crossB s t) = false := by
  have e : sidesL l = (sidesS l).map fun x => x.1.2 := by
    have h := sdOf_all l
    unfold sdOf at h
    exact h.symm
  rw [e, List.any_map]
  exact List.any_eq_false.2 fun x hx => by
    have := h x hx
    simp only [Function.comp]
    rw [this]
    decide
set_option maxHeartbeats 4000000 in
set_option maxRecDepth 100000 in
theorem check_any (r : Roof) (w : World) (hR : RdRoof w r) (hlf : r.faces.length ≤ 100000) (hlo : r.opens.length ≤ 100000) :
    Calls Tryd.prog 15 #[roofVal r] w fun e w' => e = .returned (.int .i64 (checkR r)) ∧ Below w.heap.size w w' := by
  obtain ⟨fs, os, fa, fc, oa, oc⟩ := r
  obtain ⟨hRF, hRO, hcf, hco⟩ := hR
  dsimp only [roofVal] at *
  have c43 : Hid (∀ k, k < fs.length → ∀ W, CkX w (.slice fa fs.length fc) (.slice oa os.length oc) W → Calls Tryd.prog 43 #[.slice fa fs.length fc, .int .i64 (k : Int)] W fun e w' => e = .returned (.int .i64 (faceErr fs k)) ∧ Below W.heap.size W w') := fun k hk W hW => checkFace_any fa fc fs k W (hRF.below hW.b) hk hlf hcf
  refine (callsIn_wide (n := 12)).1 ?_
  refine callsIn_of_wp_marks Tryd.func15 rfl trivial ?_ rfl
  simp only [Tryd.ntmps15, List.size_toArray, List.length_cons, List.length_nil, Nat.reduceAdd, Nat.reduceSub, Array.replicate_succ, Array.replicate_zero, List.push_toArray, List.append_toArray, List.nil_append, List.cons_append]
  by_cases h16 : 16 < fs.length
  · have h16' : 16 < (fs.length : Int) := by omega
    gi_wp2
    refine ⟨.int .i64 3, ?_, by rw [check_most h16], ((Below.refl _ w).alloc (Nat.le_refl _) _).alloc (by simp) _⟩
    have he : ((w.alloc (.cells #[.slice fa fs.length fc, .slice oa os.length oc] 25)).alloc (.cells #[.int .i64 3] 27)).cell? ⟨w.heap.size + 1, 0, none⟩ = some (.int .i64 3) := cells1 (heap_new _ _ _ (by simp))
    simp [results, Tryd.f15, go_sem, he]
  have h16' : ¬ 16 < (fs.length : Int) := by omega
  gi_wp2
  obtain ⟨W0, hW0⟩ : ∃ W0, W0 = ((w.alloc (.cells #[.slice fa fs.length fc, .slice oa os.length oc] 25)).alloc (.cells #[.int .i64 0] 27)) := ⟨_, rfl⟩
  have hX0 : Hid (CkX w (.slice fa fs.length fc) (.slice oa os.length oc) W0) := by rw [hW0]; exact CkX.make w _ _
  rw [← hW0]
  replace hW0 := Lib.hid hW0
  gi_loopw [26] (fun i wr => ∃ k : Nat, i = .int .i64 k ∧ k ≤ fs.length ∧ Hid (∀ j, j < k → faceErr fs j = 0) ∧ Hid (CkX w (.slice fa fs.length fc) (.slice oa os.length oc) wr)) (fun i _ => fs.length - (intOf i).toNat)
  case atStart => exact ⟨0, rfl, Nat.zero_le _, fun j hj => absurd hj (Nat.not_lt_zero _), hX0.out⟩
  case round =>
    obtain ⟨k, rfl, hk, hno, hX⟩ := hrel
    obtain ⟨⟨z0, z1⟩, z2, z3⟩ := hX.out.cells
    by_cases hlt : k < fs.length
    · have c := Lib.hid (c43.out k hlt wr hX.out)
      obtain ⟨ek, hek⟩ : ∃ x, x = faceErr fs k := ⟨_, rfl⟩
      rw [← hek] at c
      by_cases hz : ek = 0
      · subst hz
        have hnx : Hid (∀ j, j < k + 1 → faceErr fs j = 0) := fun j hj => by
          rcases Nat.lt_or_ge j k with h1 | h1
          · exact hno.out j h1
          · obtain rfl : j = k := by omega
            exact hek.symm
        replace hek := Lib.hid hek
        have hwk : IntKind.i64.wrap ((k : Int) + 1) = (k : Int) + 1 := IntWalk.i64_in _ (by omega)
        gi_wp2_with (refine ⟨trivial, ?_⟩; gi_at_call 43; refine (callsIn_wide.2 (c.out)).mono ?_; rintro e w1 ⟨rfl, hb1⟩)
        exact ⟨⟨k + 1, by go_num, by omega, hnx.out, hX.out.later hb1⟩, by simp only [intOf]; omega⟩
      · have hres : Hid (checkR ⟨fs, os, fa, fc, oa, oc⟩ = ek) := by unfold Hid; rw [hek]; exact check_face (r := ⟨fs, os, fa, fc, oa, oc⟩) h16 hno.out hlt (by rw [← hek]; exact hz)
        replace hek := Lib.hid hek
        gi_wp2_with (refine ⟨trivial, ?_⟩; gi_at_call 43; refine (callsIn_wide.2 c.out).mono ?_; rintro e w1 ⟨rfl, hb1⟩; have hX1 := Lib.hid (hX.out.later hb1); clear z0 z1 z2 z3; obtain ⟨⟨z0, z1⟩, z2, z3⟩ := hX1.out.cells)
        have he := CkX.ends hX1.out (.int .i64 ek)
        refine ⟨.int .i64 ek, ?_, by rw [hres.out], he.2⟩
        simp [results, Tryd.f15, go_sem, he.1]
    · obtain rfl : k = fs.length := by omega
      by_cases h12 : 12 < os.length
      · have h12' : 12 < (os.length : Int) := by omega
        gi_wp2
        have he := CkX.ends hX.out (.int .i64 3)
        refine ⟨.int .i64 3, ?_, by rw [check_opens (r := ⟨fs, os, fa, fc, oa, oc⟩) h16 hno.out h12], he.2⟩
        simp [results, Tryd.f15, go_sem, he.1]
      have h12' : ¬ 12 < (os.length : Int) := by omega
      have hSm : Hid (∀ f ∈ fs, (∀ q ∈ f.corners, SmP q 1000000) ∧ f.corners.length ≤ 100000) := fun f hf => by
        obtain ⟨k, hk, rfl⟩ := nth_of hf
        have h := face_corners (hno.out k hk)
        exact ⟨fun q hq => inPlan_small (h.1 q hq), by omega⟩
      have c44 : Hid (∀ k, k < os.length → ∀ W, CkX w (.slice fa fs.length fc) (.slice oa os.length oc) W → Calls Tryd.prog 44 #[.agg #[.slice fa fs.length fc, .slice oa os.length oc], .int .i64 (k : Int)] W fun e w' => e = .returned (.int .i64 (openErr fs os k)) ∧ Below W.heap.size W w') := fun k hk W hW => checkOpen_any fs fa fc os oa oc k W (hRF.below hW.b) (hRO.below hW.b) hk hlo hco hlf hSm.out
      gi_wp2
      obtain ⟨wf, rfl⟩ : ∃ x, x = wr := ⟨wr, rfl⟩
      gi_loopw [44] (fun i wr => ∃ k : Nat, i = .int .i64 k ∧ k ≤ os.length ∧ Hid (∀ j, j < k → openErr fs os j = 0) ∧ Hid (CkX w (.slice fa fs.length fc) (.slice oa os.length oc) wr)) (fun i _ => os.length - (intOf i).toNat)
      case atStart => exact ⟨0, rfl, Nat.zero_le _, fun j hj => absurd hj (Nat.not_lt_zero _), hX.out⟩
      case round =>
        obtain ⟨k, rfl, hk, hop, hX⟩ := hrel
        clear z0 z1 z2 z3
        obtain ⟨⟨z0, z1⟩, z2, z3⟩ := hX.out.cells
        by_cases hlt : k < os.length
        · have c := Lib.hid (c44.out k hlt wr hX.out)
          obtain ⟨ek, hek⟩ : ∃ x, x = openErr fs os k := ⟨_, rfl⟩
          rw [← hek] at c
          by_cases hz : ek = 0
          · subst hz
            have hnx : Hid (∀ j, j < k + 1 → openErr fs os j = 0) := fun j hj => by
              rcases Nat.lt_or_ge j k with h1 | h1
              · exact hop.out j h1
              · obtain rfl : j = k := by omega
                exact hek.symm
            replace hek := Lib.hid hek
            have hwk : IntKind.i64.wrap ((k : Int) + 1) = (k : Int) + 1 := IntWalk.i64_in _ (by omega)
            gi_wp2_with (refine ⟨trivial, ?_⟩; gi_at_call 44; refine (callsIn_wide.2 (c.out)).mono ?_; rintro e w1 ⟨rfl, hb1⟩)
            exact ⟨⟨k + 1, by go_num, by omega, hnx.out, hX.out.later hb1⟩, by simp only [intOf]; omega⟩
          · have hres : Hid (checkR ⟨fs, os, fa, fc, oa, oc⟩ = ek) := by unfold Hid; rw [hek]; exact check_open (r := ⟨fs, os, fa, fc, oa, oc⟩) h16 hno.out h12 hop.out hlt (by rw [← hek]; exact hz)
            replace hek := Lib.hid hek
            gi_wp2_with (refine ⟨trivial, ?_⟩; gi_at_call 44; refine (callsIn_wide.2 c.out).mono ?_; rintro e w1 ⟨rfl, hb1⟩; have hX1 := Lib.hid (hX.out.later hb1); clear z0 z1 z2 z3; obtain ⟨⟨z0, z1⟩, z2, z3⟩ := hX1.out.cells)
            have he := CkX.ends hX1.out (.int .i64 ek)
            refine ⟨.int .i64 ek, ?_, by rw [hres.out], he.2⟩
            simp [results, Tryd.f15, go_sem, he.1]
        · obtain rfl : k = os.length := by omega
          have hrest := Lib.hid (check_rest (r := ⟨fs, os, fa, fc, oa, oc⟩) h16 hno.out h12 hop.out)
          dsimp only at hrest
          have c45 : Hid (∀ i k, i < fs.length → k < fs.length → ∀ W, CkX w (.slice fa fs.length fc) (.slice oa os.length oc) W → Calls Tryd.prog 45 #[.slice (fs.getD i default).ca (fs.getD i default).corners.length (fs.getD i default).cc, .slice (fs.getD k default).ca (fs.getD k default).corners.length (fs.getD k default).cc] W fun e w' => e = .returned (.bool (partedB (fs.getD i default).corners (fs.getD k default).corners)) ∧ Below W.heap.size W w') := fun i k hi hk W hW => by
            have h1 := hSm.out _ (getD_mem hi)
            have h2 := hSm.out _ (getD_mem hk)
            exact parted_any _ _ _ _ _ _ W ((hRF.2 _ (getD_mem hi)).1.below hW.b) ((hRF.2 _ (getD_mem hk)).1.below hW.b) h1.2 (by omega) h1.1 h2.1
          have e45 : Hid (∀ i k, clashAt fs i k = (!partedB (fs.getD i default).corners (fs.getD k default).corners && !partedB (fs.getD k default).corners (fs.getD i default).corners)) := fun _ _ => rfl
          have h100 : fs.length ≤ 16 := by omega
          gi_wp2
          obtain ⟨wh, rfl⟩ : ∃ x, x = wr := ⟨wr, rfl⟩
          gi_loopw [57] (fun i wr => ∃ k : Nat, i = .int .i64 k ∧ k ≤ fs.length ∧ Hid (∀ i' k', k' < i' → i' < k → clashAt fs i' k' = false) ∧ Hid (CkX w (.slice fa fs.length fc) (.slice oa os.length oc) wr)) (fun i _ => fs.length - (intOf i).toNat)
          case atStart => exact ⟨0, rfl, Nat.zero_le _, fun i' k' _ h => absurd h (Nat.not_lt_zero _), hX.out⟩
          case round =>
            obtain ⟨k, rfl, hk, hcl, hX⟩ := hrel
            clear z0 z1 z2 z3
            obtain ⟨⟨z0, z1⟩, z2, z3⟩ := hX.out.cells
            by_cases hlt : k < fs.length
            · obtain ⟨adf, hA', p0, p1, p2, p3, p4, p5, p6⟩ := (hRF.below hX.out.b).at7 hlt
              subst hA'
              obtain ⟨f, hf⟩ : ∃ f, f = fs.getD k default := ⟨_, rfl⟩
              rw [← hf] at p0 p1 p2 p3 p4 p5 p6
              have c1 := Lib.hid (fun m hm => c45.out k m hlt hm)
              have c2 := Lib.hid (fun m hm => c45.out m k hm hlt)
              have ec := Lib.hid (fun m => e45.out k m)
              rw [← hf] at c1 c2 ec
              replace hf := Lib.hid hf
              have hkc : k ≤ fc := by omega
              have za : (wr.alloc (.cells #[.string f.name, .int .i64 f.side, .int .i64 f.foot, .int .i64 f.base, .int .i64 f.rise, .int .i64 f.run, .slice f.ca f.corners.length f.cc] 45)).cell? ⟨w.heap.size, 0, none⟩ = some (.slice (some adf) fs.length fc) := (((Below.refl _ wr).alloc (Nat.le_refl _) _).cell (lt_block hX.out.c0)).trans z0
              gi_wp2
              obtain ⟨wo, hwo⟩ : ∃ x, x = wr.alloc (.cells (fCells f) 45) := ⟨_, rfl⟩
              rw [← hwo]
              have hXo : Hid (CkX w (.slice (some adf) fs.length fc) (.slice oa os.length oc) wo) := by rw [hwo]; exact hX.out.later ((Below.refl _ wr).alloc (Nat.le_refl _) _)
              have hbf : Hid (wo.heap[wr.heap.size]? = some (.cells (fCells f) 45 (0, 0))) := by rw [hwo]; exact heap_new _ _ _ rfl
              obtain ⟨wr2, hwr2⟩ : ∃ x, x = wr := ⟨wr, rfl⟩
              rw [← hwr2] at hbf ⊢
              replace hwr2 := Lib.hid hwr2
              clear za
              gi_loopw [67] (fun i wq => ∃ m : Nat, i = .int .i64 m ∧ m ≤ k ∧ Hid (∀ k', k' < m → clashAt fs k k' = false) ∧ Hid (CkX w (.slice (some adf) fs.length fc) (.slice oa os.length oc) wq) ∧ Hid (Below wo.heap.size wo wq)) (fun i _ => k - (intOf i).toNat)
              case atStart => exact ⟨0, rfl, Nat.zero_le _, fun k' h => absurd h (Nat.not_lt_zero _), hXo.out, Below.refl _ _⟩
              case round =>
                obtain ⟨wq, rfl⟩ : ∃ x, x = wr := ⟨wr, rfl⟩
                obtain ⟨m, rfl, hm, hcm, hXm, hbm⟩ := hrel
                clear z0 z1 z2 z3
                obtain ⟨⟨z0, z1⟩, z2, z3⟩ := hXm.out.cells
                by_cases hlm : m < k
                · obtain ⟨ad2, e2, g0, g1, g2, g3, g4, g5, g6⟩ := (hRF.below hXm.out.b).at7 (show m < fs.length by omega)
                  cases e2
                  obtain ⟨g, hg⟩ : ∃ g, g = fs.getD m default := ⟨_, rfl⟩
                  rw [← hg] at g0 g1 g2 g3 g4 g5 g6
                  have d1 := c1.out m (by omega)
                  have d2 := c2.out m (by omega)
                  have ed := ec.out m
                  rw [← hg] at d1 d2 ed
                  obtain ⟨b1, hb1⟩ : ∃ b, b = partedB f.corners g.corners := ⟨_, rfl⟩
                  obtain ⟨b2, hb2⟩ : ∃ b, b = partedB g.corners f.corners := ⟨_, rfl⟩
                  rw [← hb1, ← hb2] at ed
                  rw [← hb1] at d1
                  rw [← hb2] at d2
                  have ba : Hid (Below wq.heap.size wq (wq.alloc (.cells #[.string g.name, .int .i64 g.side, .int .i64 g.foot, .int .i64 g.base, .int .i64 g.rise, .int .i64 g.run, .slice g.ca g.corners.length g.cc] 45))) := (Below.refl _ wq).alloc (Nat.le_refl _) _
                  have hXa : Hid (CkX w (.slice (some adf) fs.length fc) (.slice oa os.length oc) (wq.alloc (.cells #[.string g.name, .int .i64 g.side, .int .i64 g.foot, .int .i64 g.base, .int .i64 g.rise, .int .i64 g.run, .slice g.ca g.corners.length g.cc] 45))) := hXm.out.later ba.out
                  have lf := lt_block hbf.out
                  have lq : Hid (wq.heap[wr2.heap.size]? = some (.cells #[.string f.name, .int .i64 f.side, .int .i64 f.foot, .int .i64 f.base, .int .i64 f.rise, .int .i64 f.run, .slice f.ca f.corners.length f.cc] 45 (0, 0))) := (hbm.out.block _ lf).trans hbf.out
                  have hfa : Hid ((wq.alloc (.cells #[.string g.name, .int .i64 g.side, .int .i64 g.foot, .int .i64 g.base, .int .i64 g.rise, .int .i64 g.run, .slice g.ca g.corners.length g.cc] 45)).heap[wr2.heap.size]? = some (.cells #[.string f.name, .int .i64 f.side, .int .i64 f.foot, .int .i64 f.base, .int .i64 f.rise, .int .i64 f.run, .slice f.ca f.corners.length f.cc] 45 (0, 0))) := heap_old _ _ _ _ lq.out
                  have hga : Hid ((wq.alloc (.cells #[.string g.name, .int .i64 g.side, .int .i64 g.foot, .int .i64 g.base, .int .i64 g.rise, .int .i64 g.run, .slice g.ca g.corners.length g.cc] 45)).heap[wq.heap.size]? = some (.cells #[.string g.name, .int .i64 g.side, .int .i64 g.foot, .int .i64 g.base, .int .i64 g.rise, .int .i64 g.run, .slice g.ca g.corners.length g.cc] 45 (0, 0))) := heap_new _ _ _ rfl
                  have za := (cells7 hfa.out).2.2.2.2.2.2
                  have zb := (cells7 hga.out).2.2.2.2.2.2
                  replace hg := Lib.hid hg
                  replace hb1 := Lib.hid hb1
                  replace hb2 := Lib.hid hb2
                  replace ed := Lib.hid ed
                  replace d1 := Lib.hid d1
                  replace d2 := Lib.hid d2
                  clear lf
                  have hwk : IntKind.i64.wrap ((m : Int) + 1) = (m : Int) + 1 := IntWalk.i64_in _ (by omega)
                  have hnx : Hid (clashAt fs k m = false → ∀ k', k' < m + 1 → clashAt fs k k' = false) := fun e j hj => by
                    rcases Nat.lt_or_ge j m with h1 | h1
                    · exact hcm.out j h1
                    · obtain rfl : j = m := by omega
                      exact e
                  have hhit : Hid (clashAt fs k m = true → clashB fs = true) := fun e => clash_iff.2 ⟨k, m, hlm, hlt, e⟩
                  cases b1
                  · cases b2
                    · gi_wp2_with (first | (refine ⟨trivial, ?_⟩; gi_at_call 45; refine (callsIn_wide.2 (d1.out _ hXa.out)).mono ?_; clear d1; rintro e w1 ⟨rfl, hc1⟩; have hX1 := Lib.hid (hXa.out.later hc1); clear za zb z0 z1 z2 z3; have za := (cells7 ((hc1.block _ (lt_block hfa.out)).trans hfa.out)).2.2.2.2.2.2; have zb := (cells7 ((hc1.block _ (lt_block hga.out)).trans hga.out)).2.2.2.2.2.2) | (refine ⟨trivial, ?_⟩; gi_at_call 45; refine (callsIn_wide.2 (d2.out _ hX1.out)).mono ?_; clear d2; rintro e w2 ⟨rfl, hc2⟩; have hX2 := Lib.hid (hX1.out.later hc2); clear za zb; obtain ⟨⟨z0, z1⟩, z2, z3⟩ := hX2.out.cells))
                      have he := CkX.ends hX2.out (.int .i64 10)
                      refine ⟨.int .i64 10, ?_, by rw [hrest.out, if_pos (hhit.out ed.out)], he.2⟩
                      simp [results, Tryd.f15, go_sem, he.1]
                    · gi_wp2_with (first | (refine ⟨trivial, ?_⟩; gi_at_call 45; refine (callsIn_wide.2 (d1.out _ hXa.out)).mono ?_; clear d1; rintro e w1 ⟨rfl, hc1⟩; have hX1 := Lib.hid (hXa.out.later hc1); clear za zb z0 z1 z2 z3; have za := (cells7 ((hc1.block _ (lt_block hfa.out)).trans hfa.out)).2.2.2.2.2.2; have zb := (cells7 ((hc1.block _ (lt_block hga.out)).trans hga.out)).2.2.2.2.2.2) | (refine ⟨trivial, ?_⟩; gi_at_call 45; refine (callsIn_wide.2 (d2.out _ hX1.out)).mono ?_; clear d2; rintro e w2 ⟨rfl, hc2⟩; have hX2 := Lib.hid (hX1.out.later hc2); clear za zb; obtain ⟨⟨z0, z1⟩, z2, z3⟩ := hX2.out.cells))
                      exact ⟨⟨m + 1, by go_num, by omega, hnx.out ed.out, hX2.out, hbm.out.trans ((ba.out.trans ((hc1.mono (by simp)).trans (hc2.mono (Nat.le_trans (by simp) hc1.size)))).mono hbm.out.size)⟩, by simp only [intOf]; omega⟩
                  · gi_wp2_with (refine ⟨trivial, ?_⟩; gi_at_call 45; refine (callsIn_wide.2 (d1.out _ hXa.out)).mono ?_; clear d1; rintro e w1 ⟨rfl, hc1⟩; have hX1 := Lib.hid (hXa.out.later hc1); clear za zb z0 z1 z2 z3; have za := (cells7 ((hc1.block _ (lt_block hfa.out)).trans hfa.out)).2.2.2.2.2.2; have zb := (cells7 ((hc1.block _ (lt_block hga.out)).trans hga.out)).2.2.2.2.2.2)
                    refine ⟨trivial, ?_⟩
                    gi_wp2
                    exact ⟨⟨m + 1, by go_num, by omega, hnx.out (by rw [ed.out]; rfl), hX1.out, hbm.out.trans ((ba.out.trans (hc1.mono (by simp))).mono hbm.out.size)⟩, by simp only [intOf]; omega⟩
                · obtain rfl : m = k := by omega
                  have hnx : Hid (∀ i' k', k' < i' → i' < m + 1 → clashAt fs i' k' = false) := fun i' k' h1 h2 => by
                    rcases Nat.lt_or_ge i' m with h3 | h3
                    · exact hcl.out i' k' h1 h3
                    · obtain rfl : i' = m := by omega
                      exact hcm.out k' h1
                  have hwk : IntKind.i64.wrap ((m : Int) + 1) = (m : Int) + 1 := IntWalk.i64_in _ (by omega)
                  gi_wp2
                  exact ⟨⟨m + 1, by go_num, by omega, hnx.out, hXm.out⟩, by simp only [intOf]; omega⟩
            · obtain rfl : k = fs.length := by omega
              have hclash := Lib.hid (clash_no (fs := fs) fun i' k' h1 h2 => hcl.out i' k' h1 h2)
              gi_wp2
              refine wpIn_loop (fun a' w' => ∃ (k : Nat) (ds : List Deferred) (v11 v12 v14 v91 v92 v93 v94 v95 v96 v97 v98 v99 v100 v101 v102 v103 v104 v105 v106 v124 v125 : Value), (k ≤ fs.length ∧ Hid (∀ i' k', k' < i' → i' < k → scopeAt fs i' k' = false) ∧ Hid (CkX w (.slice fa fs.length fc) (.slice oa os.length oc) w') ∧ Hid (Marks w.heap.size w' ds)) ∧ a' = { tmps := #[Value.agg #[Value.slice fa fs.length fc, Value.slice oa os.length oc], Value.pointer (some { block := w.heap.size, off := 0 }), Value.pointer (some { block := w.heap.size + 1, off := 0 }), u3, u4, u5, u6, u7, u8, undef, u10, v11, v12, undef, v14, undef, undef, undef, undef, Value.pointer (some { block := w.heap.size, off := 0 }), Value.slice fa fs.length fc, Value.int IntKind.i64 (fs.length : Int), Value.bool false, Value.pointer (some { block := w.heap.size, off := 0 }), Value.slice fa fs.length fc, Value.int IntKind.i64 (fs.length : Int), Value.int IntKind.i64 (fs.length : Int), Value.bool false, u28, u29, u30, u31, u32, u33, u34, u35, u36, Value.pointer (some { block := w.heap.size, off := 1 }), Value.slice oa os.length oc, Value.int IntKind.i64 (os.length : Int), Value.bool false, Value.pointer (some { block := w.heap.size, off := 1 }), Value.slice oa os.length oc, Value.int IntKind.i64 (os.length : Int), Value.int IntKind.i64 (os.length : Int), Value.bool false, u46, u47, u48, u49, u50, u51, u52, u53, Value.pointer (some { block := w.heap.size, off := 0 }), Value.slice fa fs.length fc, Value.int IntKind.i64 (fs.length : Int), Value.int IntKind.i64 (fs.length : Int), Value.bool false, u59, u60, u61, u62, u63, u64, u65, u66, u67, u68, u69, u70, u71, u72, u73, u74, u75, u76, u77, u78, u79, u80, u81, u82, u83, u84, u85, u86, Value.pointer (some { block := w.heap.size, off := 0 }), Value.slice fa fs.length fc, Value.int IntKind.i64 (fs.length : Int), .int .i64 (k : Int), v91, v92, v93, v94, v95, v96, v97, v98, v99, v100, v101, v102, v103, v104, v105, v106, undef, undef, undef, undef, undef, undef, undef, undef, undef, undef, undef, undef, undef, undef, undef, undef, undef, v124, v125], defers := ds }) (fun a' _ => fs.length - (intOf (a'.tmps.getD 90 undef)).toNat) ⟨0, [], _, _, _, _, _, _, _, _, _, _, _, _, _, _, _, _, _, _, _, _, _, ⟨Nat.zero_le _, fun i' k' _ h => absurd h (Nat.not_lt_zero _), hX.out, trivial⟩, rfl⟩ ?_
              clear z0 z1 z2 z3 hcl hX
              rintro a' wA ⟨k, ds, v11, v12, v14, v91, v92, v93, v94, v95, v96, v97, v98, v99, v100, v101, v102, v103, v104, v105, v106, v124, v125, ⟨hk, hsc, hX, hM⟩, rfl⟩
              obtain ⟨⟨z0, z1⟩, z2, z3⟩ := hX.out.cells
              by_cases hlt : k < fs.length
              · obtain ⟨adf, hA', p0, p1, p2, p3, p4, p5, p6⟩ := (hRF.below hX.out.b).at7 hlt
                subst hA'
                obtain ⟨f, hf⟩ : ∃ f, f = fs.getD k default := ⟨_, rfl⟩
                rw [← hf] at p0 p1 p2 p3 p4 p5 p6
                replace hf := Lib.hid hf
                have hkc : k ≤ fc := by omega
                have za : (wA.alloc (.cells #[.string f.name, .int .i64 f.side, .int .i64 f.foot, .int .i64 f.base, .int .i64 f.rise, .int .i64 f.run, .slice f.ca f.corners.length f.cc] 45)).cell? ⟨w.heap.size, 0, none⟩ = some (.slice (some adf) fs.length fc) := (((Below.refl _ wA).alloc (Nat.le_refl _) _).cell (lt_block hX.out.c0)).trans z0
                gi_wp2
                obtain ⟨wo, hwo⟩ : ∃ x, x = wA.alloc (.cells (fCells f) 45) := ⟨_, rfl⟩
                rw [← hwo]
                have hbo : Hid (Below wA.heap.size wA wo) := by rw [hwo]; exact (Below.refl _ wA).alloc (Nat.le_refl _) _
                have hXo : Hid (CkX w (.slice (some adf) fs.length fc) (.slice oa os.length oc) wo) := hX.out.later hbo.out
                have hMo : Hid (Marks w.heap.size wo ds) := hM.out.below hbo.out
                have hbf : Hid (wo.heap[wA.heap.size]? = some (.cells (fCells f) 45 (0, 0))) := by rw [hwo]; exact heap_new _ _ _ rfl
                replace hwo := Lib.hid hwo
                clear za z0 z1 z2 z3 p0 p1 p2 p3 p4 p5 p6
                refine wpIn_loop (fun a' w' => ∃ (m : Nat) (dm : List Deferred) (y14 y101 y102 y103 y104 y105 y106 y124 : Value), (m ≤ k ∧ Hid (∀ k', k' < m → scopeAt fs k k' = false) ∧ Hid (CkX w (.slice (some adf) fs.length fc) (.slice oa os.length oc) w') ∧ Hid (Below wo.heap.size wo w') ∧ Hid (Marks w.heap.size w' dm)) ∧ a' = { tmps := #[Value.agg #[Value.slice (some adf) fs.length fc, Value.slice oa os.length oc], Value.pointer (some { block := w.heap.size, off := 0 }), Value.pointer (some { block := w.heap.size + 1, off := 0 }), u3, u4, u5, u6, u7, u8, undef, u10, Value.int IntKind.i64 (k : Int), Value.pointer (some { block := wA.heap.size, off := 0 }), undef, y14, undef, undef, undef, undef, Value.pointer (some { block := w.heap.size, off := 0 }), Value.slice (some adf) fs.length fc, Value.int IntKind.i64 (fs.length : Int), Value.bool false, Value.pointer (some { block := w.heap.size, off := 0 }), Value.slice (some adf) fs.length fc, Value.int IntKind.i64 (fs.length : Int), Value.int IntKind.i64 (fs.length : Int), Value.bool false, u28, u29, u30, u31, u32, u33, u34, u35, u36, Value.pointer (some { block := w.heap.size, off := 1 }), Value.slice oa os.length oc, Value.int IntKind.i64 (os.length : Int), Value.bool false, Value.pointer (some { block := w.heap.size, off := 1 }), Value.slice oa os.length oc, Value.int IntKind.i64 (os.length : Int), Value.int IntKind.i64 (os.length : Int), Value.bool false, u46, u47, u48, u49, u50, u51, u52, u53, Value.pointer (some { block := w.heap.size, off := 0 }), Value.slice (some adf) fs.length fc, Value.int IntKind.i64 (fs.length : Int), Value.int IntKind.i64 (fs.length : Int), Value.bool false, u59, u60, u61, u62, u63, u64, u65, u66, u67, u68, u69, u70, u71, u72, u73, u74, u75, u76, u77, u78, u79, u80, u81, u82, u83, u84, u85, u86, Value.pointer (some { block := w.heap.size, off := 0 }), Value.slice (some adf) fs.length fc, Value.int IntKind.i64 (fs.length : Int), Value.int IntKind.i64 (k : Int), Value.bool true, Value.int IntKind.i64 (k : Int), Value.pointer (some (adf.add (k * 7))), Value.agg #[Value.string f.name, Value.int IntKind.i64 f.side, Value.int IntKind.i64 f.foot, Value.int IntKind.i64 f.base, Value.int IntKind.i64 f.rise, Value.int IntKind.i64 f.run, Value.slice f.ca f.corners.length f.cc], Value.pointer (some { block := w.heap.size, off := 0 }), Value.slice (some adf) fs.length fc, Value.int IntKind.i64 (k : Int), Value.slice (some adf) k fc, Value.int IntKind.i64 (k : Int), .int .i64 (m : Int), y101, y102, y103, y104, y105, y106, undef, undef, undef, undef, undef, undef, undef, undef, undef, undef, undef, undef, undef, undef, undef, undef, undef, y124, v125], defers := dm }) (fun a' _ => k - (intOf (a'.tmps.getD 100 undef)).toNat) ⟨0, ds, _, _, _, _, _, _, _, _, ⟨Nat.zero_le _, fun k' h => absurd h (Nat.not_lt_zero _), hXo.out, Below.refl _ _, hMo.out⟩, rfl⟩ ?_
                rintro a' wB ⟨m, dm, y14, y101, y102, y103, y104, y105, y106, y124, ⟨hm, hsm, hXm, hbm, hMm⟩, rfl⟩
                obtain ⟨⟨z0, z1⟩, z2, z3⟩ := hXm.out.cells
                by_cases hlm : m < k
                · have hml : m < fs.length := by omega
                  obtain ⟨ad2, e2, g0, g1, g2, g3, g4, g5, g6⟩ := (hRF.below hXm.out.b).at7 hml
                  cases e2
                  obtain ⟨g, hg⟩ : ∃ g, g = fs.getD m default := ⟨_, rfl⟩
                  rw [← hg] at g0 g1 g2 g3 g4 g5 g6
                  replace hg := Lib.hid hg
                  have lf : Hid (wB.heap[wA.heap.size]? = some (.cells (fCells f) 45 (0, 0))) := (hbm.out.block _ (lt_block hbf.out)).trans hbf.out
                  have za : (wB.alloc (.cells #[.string g.name, .int .i64 g.side, .int .i64 g.foot, .int .i64 g.base, .int .i64 g.rise, .int .i64 g.run, .slice g.ca g.corners.length g.cc] 45)).cell? ⟨wA.heap.size, 6, none⟩ = some (.slice f.ca f.corners.length f.cc) := (cells7 (heap_old _ _ _ _ lf.out)).2.2.2.2.2.2
                  gi_wp2_with (refine ⟨trivial, ?_⟩; gi_at_call 46; refine (callsIn_wide.2 (sides_any f.ca f.corners.length f.cc _)).mono ?_; rintro e w' ⟨rfl, rfl⟩)
                  obtain ⟨wS, hwS⟩ : ∃ x, x = (wB.alloc (.cells (fCells g) 45)).alloc (.cells #[.slice f.ca f.corners.length f.cc] 43) := ⟨_, rfl⟩
                  rw [← hwS]
                  have hbs : Hid (Below wB.heap.size wB wS) := by rw [hwS]; exact ((Below.refl _ wB).alloc (Nat.le_refl _) _).alloc (by simp) _
                  have hsz : Hid (wS.heap.size = wB.heap.size + 2) := by unfold Hid; rw [hwS]; simp
                  have hgb : Hid (wS.heap[wB.heap.size]? = some (.cells (fCells g) 45 (0, 0))) := by rw [hwS]; exact heap_old _ _ _ _ (heap_new _ _ _ rfl)
                  have hsl : Hid (wS.heap[wB.heap.size + 1]? = some (.cells #[.slice f.ca f.corners.length f.cc] 43 (0, 0))) := by rw [hwS]; exact heap_new _ _ _ (by simp)
                  have hXs : Hid (CkX w (.slice (some adf) fs.length fc) (.slice oa os.length oc) wS) := hXm.out.later hbs.out
                  have hMs : Hid (Marks w.heap.size wS dm) := hMm.out.below hbs.out
                  have hPf := (hRF.2 f (by rw [hf.out]; exact getD_mem hlt)).1
                  have hPg := (hRF.2 g (by rw [hg.out]; exact getD_mem hml)).1
                  obtain ⟨hsf, hlf1⟩ := hSm.out f (by rw [hf.out]; exact getD_mem hlt)
                  obtain ⟨hsg, hlg1⟩ := hSm.out g (by rw [hg.out]; exact getD_mem hml)
                  replace hwS := Lib.hid hwS
                  clear z0 z1 z2 z3 za g0 g1 g2 g3 g4 g5 g6
                  have hlS := lt_block hXs.out.c1
                  have hlB := lt_block hsl.out
                  have hlG := lt_block hgb.out
                  have hwX := hXs.out.b.size
                  have hc1 := hXs.out.c1
                  refine wpIn_rangeFunc_ownH rfl (by decide) (gf := 91) (lb := #[.pointer (some ⟨wB.heap.size + 1, 0, none⟩)]) rfl trivial (enters_of Tryd.func91 (by kernel_rfl) rfl)
                    (sides_stops Fence.wide 11 trivial rfl (by decide) (wB.heap.size + 1) w.heap.size f.ca f.cc f.corners w wS hPf (Nat.le_refl _) hXs.out.b hXs.out.b.size hlf1 hsl.out) KpS_t (KpS_b hXs.out.b.size hlB) (Below.refl _ _) (fun _ => rfl)
                    (fun pre W => noneS g.corners pre ∧ Below wS.heap.size wS W)
                    (fun c' pre W => (c' = .ret ∧ scopeAt fs k m = true) ∧ EndX (w.heap.size + 1) wS W)
                    (OwnFrom.and (ownFrom_pure _ _) (ownFrom_below (Nat.le_refl _) (Nat.le_refl _)))
                    (fun c' => OwnFrom.and (ownFrom_pure _ _) (ownFrom_end hlS))
                    ⟨fun x hx => (by cases hx), Below.refl _ _⟩
                    (fun x a' W => ∃ Bx, wS.heap.size ≤ Bx ∧ W.heap[Bx]? = some (.cells (sdCells x.1.2) 100 (0, 0)) ∧ a' = { tmps := #[Value.agg #[Value.slice (some adf) fs.length fc, Value.slice oa os.length oc], Value.pointer (some { block := w.heap.size, off := 0 }), Value.pointer (some { block := w.heap.size + 1, off := 0 }), u3, u4, u5, u6, u7, u8, undef, u10, Value.int IntKind.i64 (k : Int), Value.pointer (some { block := wA.heap.size, off := 0 }), undef, Value.pointer (some { block := wB.heap.size, off := 0 }), undef, .pointer (some ⟨Bx, 0, none⟩), undef, undef, Value.pointer (some { block := w.heap.size, off := 0 }), Value.slice (some adf) fs.length fc, Value.int IntKind.i64 (fs.length : Int), Value.bool false, Value.pointer (some { block := w.heap.size, off := 0 }), Value.slice (some adf) fs.length fc, Value.int IntKind.i64 (fs.length : Int), Value.int IntKind.i64 (fs.length : Int), Value.bool false, u28, u29, u30, u31, u32, u33, u34, u35, u36, Value.pointer (some { block := w.heap.size, off := 1 }), Value.slice oa os.length oc, Value.int IntKind.i64 (os.length : Int), Value.bool false, Value.pointer (some { block := w.heap.size, off := 1 }), Value.slice oa os.length oc, Value.int IntKind.i64 (os.length : Int), Value.int IntKind.i64 (os.length : Int), Value.bool false, u46, u47, u48, u49, u50, u51, u52, u53, Value.pointer (some { block := w.heap.size, off := 0 }), Value.slice (some adf) fs.length fc, Value.int IntKind.i64 (fs.length : Int), Value.int IntKind.i64 (fs.length : Int), Value.bool false, u59, u60, u61, u62, u63, u64, u65, u66, u67, u68, u69, u70, u71, u72, u73, u74, u75, u76, u77, u78, u79, u80, u81, u82, u83, u84, u85, u86, Value.pointer (some { block := w.heap.size, off := 0 }), Value.slice (some adf) fs.length fc, Value.int IntKind.i64 (fs.length : Int), Value.int IntKind.i64 (k : Int), Value.bool true, Value.int IntKind.i64 (k : Int), Value.pointer (some (adf.add (k * 7))), Value.agg #[Value.string f.name, Value.int IntKind.i64 f.side, Value.int IntKind.i64 f.foot, Value.int IntKind.i64 f.base, Value.int IntKind.i64 f.rise, Value.int IntKind.i64 f.run, Value.slice f.ca f.corners.length f.cc], Value.pointer (some { block := w.heap.size, off := 0 }), Value.slice (some adf) fs.length fc, Value.int IntKind.i64 (k : Int), Value.slice (some adf) k fc, Value.int IntKind.i64 (k : Int), Value.int IntKind.i64 (m : Int), Value.bool true, Value.pointer (some (adf.add (m * 7))), Value.agg #[Value.string g.name, Value.int IntKind.i64 g.side, Value.int IntKind.i64 g.foot, Value.int IntKind.i64 g.base, Value.int IntKind.i64 g.rise, Value.int IntKind.i64 g.run, Value.slice g.ca g.corners.length g.cc], Value.pointer (some { block := wA.heap.size, off := 6 }), Value.slice f.ca f.corners.length f.cc, Value.func (Fn.func 91) #[] #[Value.pointer (some { block := wB.heap.size + 1, off := 0 })], .int .i64 (x.1.1 : Int), .agg (sdCells x.1.2), undef, undef, undef, undef, undef, undef, undef, undef, undef, undef, undef, undef, undef, undef, undef, y124, v125], defers := [] })
                    (fun x a' _ X Y row hs hg hr => by obtain ⟨Bx, e1, e2, e3⟩ := hs; exact ⟨Bx, e1, block_own Bx (fun (_ : Unit) => sdCells x.1.2) 100 () X Y row e2 hg (fun r e => (hr r e).2), e3⟩)
                    ?assign ?body ?done ?stop
                  case assign =>
                    rintro y pre x W K ⟨hn, hB⟩ hK
                    have c3 := (hB.block _ hlB).trans hsl.out
                    unfold encSide
                    gi_wp2
                    exact hK _ _ ((KeepsOthers.alloc _ _).from _) ⟨(Below.refl _ W).alloc (Nat.le_trans hwX hB.size) _, (heap_old _ _ _ _ c3).trans c3.symm⟩ ⟨hn, hB.alloc hB.size _⟩ ⟨W.heap.size, hB.size, heap_new _ _ _ rfl, rfl⟩
                  case body =>
                    rintro y pre x a' W hy ⟨rr, hr⟩ ⟨hn, hB⟩ ⟨Bx, hBx, bX, rfl⟩ hlen
                    dsimp only
                    have c3 := (hB.block _ hlB).trans hsl.out
                    have zg : W.cell? ⟨wB.heap.size, 6, none⟩ = some (.slice g.ca g.corners.length g.cc) := (cells7 ((hB.block _ hlG).trans hgb.out)).2.2.2.2.2.2
                    have ly := (Array.getElem?_eq_some_iff.1 hr).1
                    have lX := lt_block bX
                    gi_wp2_with (refine ⟨trivial, ?_⟩; gi_at_call 46; refine (CallsIn.inRound y (callsIn_wide.2 (sides_any g.ca g.corners.length g.cc _))).mono ?_; rintro e w' ⟨rfl, rfl⟩)
                    obtain ⟨wI, hwI⟩ : ∃ x, x = W.alloc (.cells #[.slice g.ca g.corners.length g.cc] 43) := ⟨_, rfl⟩
                    rw [← hwI]
                    have hbI : Hid (Below W.heap.size W wI) := by rw [hwI]; exact (Below.refl _ W).alloc (Nat.le_refl _) _
                    have hsI : Hid (wI.heap[W.heap.size]? = some (.cells #[.slice g.ca g.corners.length g.cc] 43 (0, 0))) := by rw [hwI]; exact heap_new _ _ _ rfl
                    replace hwI := Lib.hid hwI
                    have hrI := (hbI.out.block _ ly).trans hr
                    have hBI : Below wS.heap.size wS wI := hB.trans (hbI.out.mono hB.size)
                    have hXI : Hid (CkX w (.slice (some adf) fs.length fc) (.slice oa os.length oc) wI) := hXs.out.later hBI
                    have hwI2 := hXI.out.b.size
                    have hlI := lt_block hXI.out.c1
                    have hlJ := lt_block hsI.out
                    have hcW : W.heap[w.heap.size + 1]? = some (.cells #[.int .i64 0] 27 (0, 0)) := (hB.block _ hlS).trans hc1
                    obtain ⟨s, hs⟩ : ∃ s, s = x.1.2 := ⟨_, rfl⟩
                    have hsm2 := side_small hsf x
                    have hxm : Hid (s ∈ sidesL f.corners) := by rw [hs]; exact mem_sides x
                    rw [← hs] at hsm2 bX
                    have bXI : Hid (wI.heap[Bx]? = some (.cells (sdCells s) 100 (0, 0))) := (hbI.out.block _ lX).trans bX
                    have lXI := lt_block bXI.out
                    clear zg
                    refine wpIn_rangeFunc_ownN (l₀ := y) (r₀ := rr) rfl hrI (by decide) (gf := 91) (lb := #[.pointer (some ⟨W.heap.size, 0, none⟩)]) rfl trivial (enters_of Tryd.func91 (by kernel_rfl) rfl)
                      ((sides_stops Fence.wide 9 trivial rfl (by decide) W.heap.size w.heap.size g.ca g.cc g.corners w wI hPg (Nat.le_refl _) hXI.out.b hXI.out.b.size hlg1 hsI.out).inRound y) KpS_t (KpS_b hXI.out.b.size hlJ) (Below.refl _ _) (fun _ => rfl)
                      (fun pre' W' => (∀ z ∈ pre', crossB s z.1.2 = false) ∧ Below wI.heap.size wI W')
                      (fun c' pre' W' => (c' = .ret ∧ scopeAt fs k m = true) ∧ EndX (w.heap.size + 1) wI W')
                      (OwnFrom.and (ownFrom_pure _ _) (ownFrom_below (Nat.le_refl _) (Nat.le_refl _)))
                      (fun c' => OwnFrom.and (ownFrom_pure _ _) (ownFrom_end hlI))
                      ⟨fun z hz => (by cases hz), Below.refl _ _⟩
                      (fun z a'' W' => ∃ By, wI.heap.size ≤ By ∧ W'.heap[By]? = some (.cells (sdCells z.1.2) 100 (0, 0)) ∧ a'' = { tmps := #[Value.agg #[Value.slice (some adf) fs.length fc, Value.slice oa os.length oc], Value.pointer (some { block := w.heap.size, off := 0 }), Value.pointer (some { block := w.heap.size + 1, off := 0 }), u3, u4, u5, u6, u7, u8, undef, u10, Value.int IntKind.i64 (k : Int), Value.pointer (some { block := wA.heap.size, off := 0 }), undef, Value.pointer (some { block := wB.heap.size, off := 0 }), undef, Value.pointer (some { block := Bx, off := 0 }), undef, .pointer (some ⟨By, 0, none⟩), Value.pointer (some { block := w.heap.size, off := 0 }), Value.slice (some adf) fs.length fc, Value.int IntKind.i64 (fs.length : Int), Value.bool false, Value.pointer (some { block := w.heap.size, off := 0 }), Value.slice (some adf) fs.length fc, Value.int IntKind.i64 (fs.length : Int), Value.int IntKind.i64 (fs.length : Int), Value.bool false, u28, u29, u30, u31, u32, u33, u34, u35, u36, Value.pointer (some { block := w.heap.size, off := 1 }), Value.slice oa os.length oc, Value.int IntKind.i64 (os.length : Int), Value.bool false, Value.pointer (some { block := w.heap.size, off := 1 }), Value.slice oa os.length oc, Value.int IntKind.i64 (os.length : Int), Value.int IntKind.i64 (os.length : Int), Value.bool false, u46, u47, u48, u49, u50, u51, u52, u53, Value.pointer (some { block := w.heap.size, off := 0 }), Value.slice (some adf) fs.length fc, Value.int IntKind.i64 (fs.length : Int), Value.int IntKind.i64 (fs.length : Int), Value.bool false, u59, u60, u61, u62, u63, u64, u65, u66, u67, u68, u69, u70, u71, u72, u73, u74, u75, u76, u77, u78, u79, u80, u81, u82, u83, u84, u85, u86, Value.pointer (some { block := w.heap.size, off := 0 }), Value.slice (some adf) fs.length fc, Value.int IntKind.i64 (fs.length : Int), Value.int IntKind.i64 (k : Int), Value.bool true, Value.int IntKind.i64 (k : Int), Value.pointer (some (adf.add (k * 7))), Value.agg #[Value.string f.name, Value.int IntKind.i64 f.side, Value.int IntKind.i64 f.foot, Value.int IntKind.i64 f.base, Value.int IntKind.i64 f.rise, Value.int IntKind.i64 f.run, Value.slice f.ca f.corners.length f.cc], Value.pointer (some { block := w.heap.size, off := 0 }), Value.slice (some adf) fs.length fc, Value.int IntKind.i64 (k : Int), Value.slice (some adf) k fc, Value.int IntKind.i64 (k : Int), Value.int IntKind.i64 (m : Int), Value.bool true, Value.pointer (some (adf.add (m * 7))), Value.agg #[Value.string g.name, Value.int IntKind.i64 g.side, Value.int IntKind.i64 g.foot, Value.int IntKind.i64 g.base, Value.int IntKind.i64 g.rise, Value.int IntKind.i64 g.run, Value.slice g.ca g.corners.length g.cc], Value.pointer (some { block := wA.heap.size, off := 6 }), Value.slice f.ca f.corners.length f.cc, Value.func (Fn.func 91) #[] #[Value.pointer (some { block := wB.heap.size + 1, off := 0 })], Value.int IntKind.i64 (x.val.fst : Int), Value.agg (sdCells x.val.snd), Value.pointer (some { block := wB.heap.size, off := 6 }), Value.slice g.ca g.corners.length g.cc, Value.func (Fn.func 91) #[] #[Value.pointer (some { block := W.heap.size, off := 0 })], .int .i64 (z.1.1 : Int), .agg (sdCells z.1.2), undef, undef, undef, undef, undef, undef, undef, undef, undef, undef, y124, v125], defers := [] })
                      (fun z a'' _ X Y row hs hg hr => by obtain ⟨By, e1, e2, e3⟩ := hs; exact ⟨By, e1, block_own By (fun (_ : Unit) => sdCells z.1.2) 100 () X Y row e2 hg (fun r e => (hr r e).2), e3⟩)
                      ?assign2 ?body2 ?done2 ?stop2
                    case assign2 =>
                      rintro y2 pre' z W' K ⟨hq, hB2⟩ hK
                      have c4 := (hB2.block _ hlJ).trans hsI.out
                      unfold encSide
                      gi_wp2
                      exact hK _ _ ((KeepsOthers.alloc _ _).from _) ⟨(Below.refl _ W').alloc (Nat.le_trans hwI2 hB2.size) _, (heap_old _ _ _ _ c4).trans c4.symm⟩ ⟨hq, hB2.alloc hB2.size _⟩ ⟨W'.heap.size, hB2.size, heap_new _ _ _ rfl, rfl⟩
                    case body2 =>
                      rintro y2 pre' z a'' W' hy2 hr2 ⟨hq, hB2⟩ ⟨By, hBy, bY, rfl⟩ hlen2
                      dsimp only
                      obtain ⟨t, ht⟩ : ∃ t, t = z.1.2 := ⟨_, rfl⟩
                      have htm2 := side_small hsg z
                      have hzm : Hid (t ∈ sidesL g.corners) := by rw [ht]; exact mem_sides z
                      rw [← ht] at htm2 bY
                      have hsX : W'.heap[Bx]? = some (.cells (sdCells s) 100 (0, 0)) := (hB2.block _ lXI).trans bXI.out
                      have hcR : W'.heap[w.heap.size + 1]? = some (.cells #[.int .i64 0] 27 (0, 0)) := (hB2.block _ hlI).trans hXI.out.c1
                      have hcl : Hid (∀ V, Below W'.heap.size W' V → (V.cell? ⟨Bx, 0, none⟩ = some (.int .i64 s.a.x) ∧ V.cell? ⟨Bx, 1, none⟩ = some (.int .i64 s.a.y) ∧ V.cell? ⟨Bx, 2, none⟩ = some (.int .i64 s.b.x) ∧ V.cell? ⟨Bx, 3, none⟩ = some (.int .i64 s.b.y)) ∧ (V.cell? ⟨By, 0, none⟩ = some (.int .i64 t.a.x) ∧ V.cell? ⟨By, 1, none⟩ = some (.int .i64 t.a.y) ∧ V.cell? ⟨By, 2, none⟩ = some (.int .i64 t.b.x) ∧ V.cell? ⟨By, 3, none⟩ = some (.int .i64 t.b.y))) := fun V h => ⟨cells4 ((h.block _ (lt_block hsX)).trans hsX), cells4 ((h.block _ (lt_block bY)).trans bY)⟩
                      have hgo : Hid (∀ V, Below W'.heap.size W' V → KeepsFrom wI.heap.size W' V ∧ KpS w.heap.size W.heap.size W' V ∧ Below wI.heap.size wI V) := fun V h => ⟨keepsOf h, ⟨h.mono (Nat.le_trans hwI2 hB2.size), h.block _ (Nat.lt_of_lt_of_le hlJ hB2.size)⟩, hB2.trans (h.mono hB2.size)⟩
                      have hqn : Hid (crossB s t = false → ∀ v ∈ pre' ++ [z], crossB s v.1.2 = false) := fun e v hv => by
                        rcases List.mem_append.1 hv with h1 | h1
                        · exact hq v h1
                        · obtain rfl : v = z := by simpa using h1
                          rw [← ht]; exact e
                      have hqy : Hid (crossB s t = true → scopeAt fs k m = true) := fun e => by
                        unfold scopeAt
                        rw [← hf.out, ← hg.out]
                        exact List.any_eq_true.2 ⟨s, hxm.out, List.any_eq_true.2 ⟨t, hzm.out, e⟩⟩
                      obtain ⟨ne, hne⟩ : ∃ b, b = decide (endsS s ≠ endsS t) := ⟨_, rfl⟩
                      obtain ⟨sh, hsh⟩ : ∃ b, b = shareB s t := ⟨_, rfl⟩
                      have hcr : Hid (crossB s t = (ne && sh)) := by unfold Hid crossB; rw [hne, hsh]
                      obtain ⟨es, hes⟩ : ∃ v, v = endsS s := ⟨_, rfl⟩
                      obtain ⟨et, het⟩ : ∃ v, v = endsS t := ⟨_, rfl⟩
                      have c47s : Hid (∀ V, Calls Tryd.prog 47 #[.agg (sdCells s)] V fun e w' => e = .returned (.agg (sdCells es)) ∧ Below V.heap.size V w') := fun V => by rw [hes]; exact ends_any s V
                      have c47t : Hid (∀ V, Calls Tryd.prog 47 #[.agg (sdCells t)] V fun e w' => e = .returned (.agg (sdCells et)) ∧ Below V.heap.size V w') := fun V => by rw [het]; exact ends_any t V
                      have c48 : Hid (∀ V, Calls Tryd.prog 48 #[.agg (sdCells s), .agg (sdCells t)] V fun e w' => e = .returned (.bool sh) ∧ Below V.heap.size V w') := fun V => by rw [hsh]; exact share_any s t V hsm2.1 hsm2.2 htm2.1 htm2.2
                      rw [← hes, ← het] at hne
                      replace hes := Lib.hid hes
                      replace het := Lib.hid het
                      replace hsh := Lib.hid hsh
                      replace hs := Lib.hid hs
                      replace ht := Lib.hid ht
                      cases ne
                      · obtain rfl : es = et := by simpa using hne.symm
                        replace hne := Lib.hid hne
                        gi_wp2
                        have hSd : Below W'.heap.size W' W'.drew := (Below.refl _ _).drew
                        refine wpIn_region_tree (fun V => Below W'.heap.size W' V) (.read 0 (.read 2 (.one 1 (.one 3 (.pure 4 (.pure 5 (.read 6 (.read 7 (.one 8 (.one 9 .done)))))))))) [9] (by kernel_rfl) (by kernel_rfl) (by kernel_rfl) ((Below.refl _ _).drew) ?_
                        refine wpTreeIn_take (v := ?_) rfl (by rfl) ?_ (fun _ => by rfl) (fun _ _ _ h => h) ?_
                        rotate_left
                        focus (intro w' hSw; obtain ⟨⟨x0, x1, x2, x3⟩, y0, y1, y3, y4⟩ := hcl.out _ hSw; clear hSw; (try simp only [List.getElem_toArray, List.getElem_cons_zero, List.getElem_cons_succ]); go_simp; try with_reducible rfl)
                        (try simp only [List.getElem_toArray, List.getElem_cons_zero, List.getElem_cons_succ, Act.put, List.setIfInBounds_toArray, List.set_cons_zero, List.set_cons_succ])
                        refine wpTreeIn_take (v := ?_) rfl (by rfl) ?_ (fun _ => by rfl) (fun _ _ _ h => h) ?_
                        rotate_left
                        focus (intro w' hSw; obtain ⟨⟨x0, x1, x2, x3⟩, y0, y1, y3, y4⟩ := hcl.out _ hSw; clear hSw; (try simp only [List.getElem_toArray, List.getElem_cons_zero, List.getElem_cons_succ]); go_simp; try with_reducible rfl)
                        (try simp only [List.getElem_toArray, List.getElem_cons_zero, List.getElem_cons_succ, Act.put, List.setIfInBounds_toArray, List.set_cons_zero, List.set_cons_succ])
                        refine wpTreeIn_do rfl (by rfl) ?_
                        (try simp only [List.getElem_toArray, List.getElem_cons_zero, List.getElem_cons_succ])
                        go_simp
                        refine ⟨trivial, ?_⟩
                        gi_at_call 47
                        refine (CallsIn.inRound y2 (CallsIn.inRound y (callsIn_wide.2 (c47s.out _)))).mono ?_
                        rintro e w3 ⟨rfl, hb3⟩
                        dsimp only
                        have Sw3 : Below W'.heap.size W' w3 := hSd.trans (hb3.mono hSd.size)
                        refine ⟨by intros; first | exact Sw3 | (unfold Hid; exact Sw3), ?_⟩
                        (try simp only [List.getElem_toArray, List.getElem_cons_zero, List.getElem_cons_succ, Act.put, List.setIfInBounds_toArray, List.set_cons_zero, List.set_cons_succ])
                        refine wpTreeIn_do rfl (by rfl) ?_
                        (try simp only [List.getElem_toArray, List.getElem_cons_zero, List.getElem_cons_succ])
                        go_simp
                        refine ⟨trivial, ?_⟩
                        gi_at_call 47
                        refine (CallsIn.inRound y2 (CallsIn.inRound y (callsIn_wide.2 (c47t.out _)))).mono ?_
                        rintro e w4 ⟨rfl, hb4⟩
                        dsimp only
                        have Sw4 : Below W'.heap.size W' w4 := Sw3.trans (hb4.mono Sw3.size)
                        refine ⟨by intros; first | exact Sw4 | (unfold Hid; exact Sw4), ?_⟩
                        (try simp only [List.getElem_toArray, List.getElem_cons_zero, List.getElem_cons_succ, Act.put, List.setIfInBounds_toArray, List.set_cons_zero, List.set_cons_succ])
                        refine wpTreeIn_pure (v := ?_) rfl (by rfl) ?_ (fun _ => by rfl) (fun _ _ _ h => h) ?_
                        rotate_left
                        focus (intro w'; (try simp only [List.getElem_toArray, List.getElem_cons_zero, List.getElem_cons_succ]); go_simp; try with_reducible rfl)
                        (try simp only [List.getElem_toArray, List.getElem_cons_zero, List.getElem_cons_succ, Act.put, List.setIfInBounds_toArray, List.set_cons_zero, List.set_cons_succ])
                        refine wpTreeIn_pure (v := ?_) rfl (by rfl) ?_ (fun _ => by rfl) (fun _ _ _ h => h) ?_
                        rotate_left
                        focus (intro w'; (try simp only [List.getElem_toArray, List.getElem_cons_zero, List.getElem_cons_succ]); go_simp; try with_reducible rfl)
                        (try simp only [List.getElem_toArray, List.getElem_cons_zero, List.getElem_cons_succ, Act.put, List.setIfInBounds_toArray, List.set_cons_zero, List.set_cons_succ])
                        refine wpTreeIn_barR rfl (by rfl) (fun _ => by rfl) (fun _ _ _ h => h) ?_
                        (try simp only [List.getElem_toArray, List.getElem_cons_zero, List.getElem_cons_succ, Act.put, List.setIfInBounds_toArray, List.set_cons_zero, List.set_cons_succ])
                        refine wpTreeIn_barR rfl (by rfl) (fun _ => by rfl) (fun _ _ _ h => h) ?_
                        (try simp only [List.getElem_toArray, List.getElem_cons_zero, List.getElem_cons_succ, Act.put, List.setIfInBounds_toArray, List.set_cons_zero, List.set_cons_succ])
                        refine wpTreeIn_bar1 rfl (by rfl) (fun _ _ => trivial) ?_
                        (try simp only [List.getElem_toArray, List.getElem_cons_zero, List.getElem_cons_succ, Act.put, List.setIfInBounds_toArray, List.set_cons_zero, List.set_cons_succ])
                        refine wpTreeIn_do rfl (by rfl) ?_
                        (try simp only [List.getElem_toArray, List.getElem_cons_zero, List.getElem_cons_succ])
                        go_simp
                        (try simp only [List.getElem_toArray, List.getElem_cons_zero, List.getElem_cons_succ, Act.put, List.setIfInBounds_toArray, List.set_cons_zero, List.set_cons_succ])
                        (try unfold wpTreeIn)
                        obtain ⟨f1, f2, f3⟩ := hgo.out _ Sw4
                        gi_wp2
                        exact ⟨f1, f2, hqn.out (by rw [hcr.out]; rfl), f3⟩
                      · have hne4 : Hid (es.a.x = et.a.x → es.a.y = et.a.y → es.b.x = et.b.x → es.b.y = et.b.y → False) := by
                          have h1 : es ≠ et := by simpa using hne.symm
                          intro e1 e2 e3 e4
                          apply h1
                          obtain ⟨⟨ax, ay⟩, ⟨bx, b2⟩⟩ := es
                          obtain ⟨⟨cx, cy⟩, ⟨dx, d2⟩⟩ := et
                          simp only at e1 e2 e3 e4
                          subst e1; subst e2; subst e3; subst e4; rfl
                        replace hne := Lib.hid hne
                        cases sh
                        · gi_wp2
                          have hSd : Below W'.heap.size W' W'.drew := (Below.refl _ _).drew
                          refine wpIn_region_tree (fun V => Below W'.heap.size W' V) (.read 0 (.read 2 (.one 1 (.one 3 (.pure 4 (.pure 5 (.read 6 (.read 7 (.one 8 (.one 9 .done)))))))))) [9] (by kernel_rfl) (by kernel_rfl) (by kernel_rfl) ((Below.refl _ _).drew) ?_
                          refine wpTreeIn_take (v := ?_) rfl (by rfl) ?_ (fun _ => by rfl) (fun _ _ _ h => h) ?_
                          rotate_left
                          focus (intro w' hSw; obtain ⟨⟨x0, x1, x2, x3⟩, y0, y1, y3, y4⟩ := hcl.out _ hSw; clear hSw; (try simp only [List.getElem_toArray, List.getElem_cons_zero, List.getElem_cons_succ]); go_simp; try with_reducible rfl)
                          (try simp only [List.getElem_toArray, List.getElem_cons_zero, List.getElem_cons_succ, Act.put, List.setIfInBounds_toArray, List.set_cons_zero, List.set_cons_succ])
                          refine wpTreeIn_take (v := ?_) rfl (by rfl) ?_ (fun _ => by rfl) (fun _ _ _ h => h) ?_
                          rotate_left
                          focus (intro w' hSw; obtain ⟨⟨x0, x1, x2, x3⟩, y0, y1, y3, y4⟩ := hcl.out _ hSw; clear hSw; (try simp only [List.getElem_toArray, List.getElem_cons_zero, List.getElem_cons_succ]); go_simp; try with_reducible rfl)
                          (try simp only [List.getElem_toArray, List.getElem_cons_zero, List.getElem_cons_succ, Act.put, List.setIfInBounds_toArray, List.set_cons_zero, List.set_cons_succ])
                          refine wpTreeIn_do rfl (by rfl) ?_
                          (try simp only [List.getElem_toArray, List.getElem_cons_zero, List.getElem_cons_succ])
                          go_simp
                          refine ⟨trivial, ?_⟩
                          gi_at_call 47
                          refine (CallsIn.inRound y2 (CallsIn.inRound y (callsIn_wide.2 (c47s.out _)))).mono ?_
                          rintro e w3 ⟨rfl, hb3⟩
                          dsimp only
                          have Sw3 : Below W'.heap.size W' w3 := hSd.trans (hb3.mono hSd.size)
                          refine ⟨by intros; first | exact Sw3 | (unfold Hid; exact Sw3), ?_⟩
                          (try simp only [List.getElem_toArray, List.getElem_cons_zero, List.getElem_cons_succ, Act.put, List.setIfInBounds_toArray, List.set_cons_zero, List.set_cons_succ])
                          refine wpTreeIn_do rfl (by rfl) ?_
                          (try simp only [List.getElem_toArray, List.getElem_cons_zero, List.getElem_cons_succ])
                          go_simp
                          refine ⟨trivial, ?_⟩
                          gi_at_call 47
                          refine (CallsIn.inRound y2 (CallsIn.inRound y (callsIn_wide.2 (c47t.out _)))).mono ?_
                          rintro e w4 ⟨rfl, hb4⟩
                          dsimp only
                          have Sw4 : Below W'.heap.size W' w4 := Sw3.trans (hb4.mono Sw3.size)
                          refine ⟨by intros; first | exact Sw4 | (unfold Hid; exact Sw4), ?_⟩
                          (try simp only [List.getElem_toArray, List.getElem_cons_zero, List.getElem_cons_succ, Act.put, List.setIfInBounds_toArray, List.set_cons_zero, List.set_cons_succ])
                          refine wpTreeIn_pure (v := .bool true) rfl (by rfl) ?_ (fun _ => by rfl) (fun _ _ _ h => h) ?_
                          focus (intro w'; (try simp only [List.getElem_toArray, List.getElem_cons_zero, List.getElem_cons_succ]); go_simp; have hx := hne4.out; by_cases e1 : es.a.x = et.a.x <;> by_cases e2 : es.a.y = et.a.y <;> by_cases e3 : es.b.x = et.b.x <;> by_cases e4 : es.b.y = et.b.y <;> first | (exfalso; exact hx e1 e2 e3 e4) | simp [e1, e2, e3, e4])
                          (try simp only [List.getElem_toArray, List.getElem_cons_zero, List.getElem_cons_succ, Act.put, List.setIfInBounds_toArray, List.set_cons_zero, List.set_cons_succ])
                          refine wpTreeIn_pure (v := ?_) rfl (by rfl) ?_ (fun _ => by rfl) (fun _ _ _ h => h) ?_
                          rotate_left
                          focus (intro w'; (try simp only [List.getElem_toArray, List.getElem_cons_zero, List.getElem_cons_succ]); go_simp; try with_reducible rfl)
                          (try simp only [List.getElem_toArray, List.getElem_cons_zero, List.getElem_cons_succ, Act.put, List.setIfInBounds_toArray, List.set_cons_zero, List.set_cons_succ])
                          refine wpTreeIn_take (v := ?_) rfl (by rfl) ?_ (fun _ => by rfl) (fun _ _ _ h => h) ?_
                          rotate_left
                          focus (intro w' hSw; obtain ⟨⟨x0, x1, x2, x3⟩, y0, y1, y3, y4⟩ := hcl.out _ hSw; clear hSw; (try simp only [List.getElem_toArray, List.getElem_cons_zero, List.getElem_cons_succ]); go_simp; try with_reducible rfl)
                          (try simp only [List.getElem_toArray, List.getElem_cons_zero, List.getElem_cons_succ, Act.put, List.setIfInBounds_toArray, List.set_cons_zero, List.set_cons_succ])
                          refine wpTreeIn_take (v := ?_) rfl (by rfl) ?_ (fun _ => by rfl) (fun _ _ _ h => h) ?_
                          rotate_left
                          focus (intro w' hSw; obtain ⟨⟨x0, x1, x2, x3⟩, y0, y1, y3, y4⟩ := hcl.out _ hSw; clear hSw; (try simp only [List.getElem_toArray, List.getElem_cons_zero, List.getElem_cons_succ]); go_simp; try with_reducible rfl)
                          (try simp only [List.getElem_toArray, List.getElem_cons_zero, List.getElem_cons_succ, Act.put, List.setIfInBounds_toArray, List.set_cons_zero, List.set_cons_succ])
                          refine wpTreeIn_do rfl (by rfl) ?_
                          (try simp only [List.getElem_toArray, List.getElem_cons_zero, List.getElem_cons_succ])
                          go_simp
                          refine ⟨trivial, ?_⟩
                          gi_at_call 48
                          refine (CallsIn.inRound y2 (CallsIn.inRound y (callsIn_wide.2 (c48.out _)))).mono ?_
                          rintro e w5 ⟨rfl, hb5⟩
                          dsimp only
                          have Sw5 : Below W'.heap.size W' w5 := Sw4.trans (hb5.mono Sw4.size)
                          refine ⟨by intros; first | exact Sw5 | (unfold Hid; exact Sw5), ?_⟩
                          (try simp only [List.getElem_toArray, List.getElem_cons_zero, List.getElem_cons_succ, Act.put, List.setIfInBounds_toArray, List.set_cons_zero, List.set_cons_succ])
                          refine wpTreeIn_do rfl (by rfl) ?_
                          (try simp only [List.getElem_toArray, List.getElem_cons_zero, List.getElem_cons_succ])
                          go_simp
                          (try simp only [List.getElem_toArray, List.getElem_cons_zero, List.getElem_cons_succ, Act.put, List.setIfInBounds_toArray, List.set_cons_zero, List.set_cons_succ])
                          (try unfold wpTreeIn)
                          obtain ⟨f1, f2, f3⟩ := hgo.out _ Sw5
                          gi_wp2
                          exact ⟨f1, f2, hqn.out (by rw [hcr.out]; rfl), f3⟩
                        · gi_wp2
                          have hSd : Below W'.heap.size W' W'.drew := (Below.refl _ _).drew
                          refine wpIn_region_tree (fun V => Below W'.heap.size W' V) (.read 0 (.read 2 (.one 1 (.one 3 (.pure 4 (.pure 5 (.read 6 (.read 7 (.one 8 (.one 9 .done)))))))))) [9] (by kernel_rfl) (by kernel_rfl) (by kernel_rfl) ((Below.refl _ _).drew) ?_
                          refine wpTreeIn_take (v := ?_) rfl (by rfl) ?_ (fun _ => by rfl) (fun _ _ _ h => h) ?_
                          rotate_left
                          focus (intro w' hSw; obtain ⟨⟨x0, x1, x2, x3⟩, y0, y1, y3, y4⟩ := hcl.out _ hSw; clear hSw; (try simp only [List.getElem_toArray, List.getElem_cons_zero, List.getElem_cons_succ]); go_simp; try with_reducible rfl)
                          (try simp only [List.getElem_toArray, List.getElem_cons_zero, List.getElem_cons_succ, Act.put, List.setIfInBounds_toArray, List.set_cons_zero, List.set_cons_succ])
                          refine wpTreeIn_take (v := ?_) rfl (by rfl) ?_ (fun _ => by rfl) (fun _ _ _ h => h) ?_
                          rotate_left
                          focus (intro w' hSw; obtain ⟨⟨x0, x1, x2, x3⟩, y0, y1, y3, y4⟩ := hcl.out _ hSw; clear hSw; (try simp only [List.getElem_toArray, List.getElem_cons_zero, List.getElem_cons_succ]); go_simp; try with_reducible rfl)
                          (try simp only [List.getElem_toArray, List.getElem_cons_zero, List.getElem_cons_succ, Act.put, List.setIfInBounds_toArray, List.set_cons_zero, List.set_cons_succ])
                          refine wpTreeIn_do rfl (by rfl) ?_
                          (try simp only [List.getElem_toArray, List.getElem_cons_zero, List.getElem_cons_succ])
                          go_simp
                          refine ⟨trivial, ?_⟩
                          gi_at_call 47
                          refine (CallsIn.inRound y2 (CallsIn.inRound y (callsIn_wide.2 (c47s.out _)))).mono ?_
                          rintro e w3 ⟨rfl, hb3⟩
                          dsimp only
                          have Sw3 : Below W'.heap.size W' w3 := hSd.trans (hb3.mono hSd.size)
                          refine ⟨by intros; first | exact Sw3 | (unfold Hid; exact Sw3), ?_⟩
                          (try simp only [List.getElem_toArray, List.getElem_cons_zero, List.getElem_cons_succ, Act.put, List.setIfInBounds_toArray, List.set_cons_zero, List.set_cons_succ])
                          refine wpTreeIn_do rfl (by rfl) ?_
                          (try simp only [List.getElem_toArray, List.getElem_cons_zero, List.getElem_cons_succ])
                          go_simp
                          refine ⟨trivial, ?_⟩
                          gi_at_call 47
                          refine (CallsIn.inRound y2 (CallsIn.inRound y (callsIn_wide.2 (c47t.out _)))).mono ?_
                          rintro e w4 ⟨rfl, hb4⟩
                          dsimp only
                          have Sw4 : Below W'.heap.size W' w4 := Sw3.trans (hb4.mono Sw3.size)
                          refine ⟨by intros; first | exact Sw4 | (unfold Hid; exact Sw4), ?_⟩
                          (try simp only [List.getElem_toArray, List.getElem_cons_zero, List.getElem_cons_succ, Act.put, List.setIfInBounds_toArray, List.set_cons_zero, List.set_cons_succ])
                          refine wpTreeIn_pure (v := .bool true) rfl (by rfl) ?_ (fun _ => by rfl) (fun _ _ _ h => h) ?_
                          focus (intro w'; (try simp only [List.getElem_toArray, List.getElem_cons_zero, List.getElem_cons_succ]); go_simp; have hx := hne4.out; by_cases e1 : es.a.x = et.a.x <;> by_cases e2 : es.a.y = et.a.y <;> by_cases e3 : es.b.x = et.b.x <;> by_cases e4 : es.b.y = et.b.y <;> first | (exfalso; exact hx e1 e2 e3 e4) | simp [e1, e2, e3, e4])
                          (try simp only [List.getElem_toArray, List.getElem_cons_zero, List.getElem_cons_succ, Act.put, List.setIfInBounds_toArray, List.set_cons_zero, List.set_cons_succ])
                          refine wpTreeIn_pure (v := ?_) rfl (by rfl) ?_ (fun _ => by rfl) (fun _ _ _ h => h) ?_
                          rotate_left
                          focus (intro w'; (try simp only [List.getElem_toArray, List.getElem_cons_zero, List.getElem_cons_succ]); go_simp; try with_reducible rfl)
                          (try simp only [List.getElem_toArray, List.getElem_cons_zero, List.getElem_cons_succ, Act.put, List.setIfInBounds_toArray, List.set_cons_zero, List.set_cons_succ])
                          refine wpTreeIn_take (v := ?_) rfl (by rfl) ?_ (fun _ => by rfl) (fun _ _ _ h => h) ?_
                          rotate_left
                          focus (intro w' hSw; obtain ⟨⟨x0, x1, x2, x3⟩, y0, y1, y3, y4⟩ := hcl.out _ hSw; clear hSw; (try simp only [List.getElem_toArray, List.getElem_cons_zero, List.getElem_cons_succ]); go_simp; try with_reducible rfl)
                          (try simp only [List.getElem_toArray, List.getElem_cons_zero, List.getElem_cons_succ, Act.put, List.setIfInBounds_toArray, List.set_cons_zero, List.set_cons_succ])
                          refine wpTreeIn_take (v := ?_) rfl (by rfl) ?_ (fun _ => by rfl) (fun _ _ _ h => h) ?_
                          rotate_left
                          focus (intro w' hSw; obtain ⟨⟨x0, x1, x2, x3⟩, y0, y1, y3, y4⟩ := hcl.out _ hSw; clear hSw; (try simp only [List.getElem_toArray, List.getElem_cons_zero, List.getElem_cons_succ]); go_simp; try with_reducible rfl)
                          (try simp only [List.getElem_toArray, List.getElem_cons_zero, List.getElem_cons_succ, Act.put, List.setIfInBounds_toArray, List.set_cons_zero, List.set_cons_succ])
                          refine wpTreeIn_do rfl (by rfl) ?_
                          (try simp only [List.getElem_toArray, List.getElem_cons_zero, List.getElem_cons_succ])
                          go_simp
                          refine ⟨trivial, ?_⟩
                          gi_at_call 48
                          refine (CallsIn.inRound y2 (CallsIn.inRound y (callsIn_wide.2 (c48.out _)))).mono ?_
                          rintro e w5 ⟨rfl, hb5⟩
                          dsimp only
                          have Sw5 : Below W'.heap.size W' w5 := Sw4.trans (hb5.mono Sw4.size)
                          refine ⟨by intros; first | exact Sw5 | (unfold Hid; exact Sw5), ?_⟩
                          (try simp only [List.getElem_toArray, List.getElem_cons_zero, List.getElem_cons_succ, Act.put, List.setIfInBounds_toArray, List.set_cons_zero, List.set_cons_succ])
                          refine wpTreeIn_do rfl (by rfl) ?_
                          (try simp only [List.getElem_toArray, List.getElem_cons_zero, List.getElem_cons_succ])
                          go_simp
                          (try simp only [List.getElem_toArray, List.getElem_cons_zero, List.getElem_cons_succ, Act.put, List.setIfInBounds_toArray, List.set_cons_zero, List.set_cons_succ])
                          (try unfold wpTreeIn)
                          obtain ⟨f1, f2, f3⟩ := hgo.out _ Sw5
                          have c5 := (Sw5.block _ (lt_block hcR)).trans hcR
                          have y5 := cells1 c5
                          have f5 := frozen_row c5 0
                          gi_wp2
                          exact ⟨(keepsOf Sw5).trans ((KeepsOthers.setCell _ _ _).from _), ⟨rfl, hqy.out (by rw [hcr.out]; rfl)⟩, EndX.make f3 hXI.out.c1 c5⟩
                    case done2 =>
                      rintro ys W' rfl ⟨hq, hB2⟩
                      have hBW : Below W.heap.size W W' := hbI.out.trans (hB2.mono hbI.out.size)
                      have hno : Hid (noneS g.corners (pre ++ [x])) := fun v hv => by
                        rcases List.mem_append.1 hv with h1 | h1
                        · exact hn v h1
                        · obtain rfl : v = x := by simpa using h1
                          exact any_sides (by rw [← hs]; exact hq)
                      gi_wp2
                      exact ⟨keepsOf hBW, ⟨hBW.mono (Nat.le_trans hwX hB.size), hBW.block _ (Nat.lt_of_lt_of_le hlB hB.size)⟩, hno.out, hB.trans (hBW.mono hB.size)⟩
                    case stop2 =>
                      rintro c' pre' W' _ ⟨⟨rfl, hh⟩, hE⟩
                      have hEW := hE.from hbI.out hcW
                      gi_wp2
                      exact ⟨hEW.keeps, ⟨rfl, hh⟩, hEW.from hB hc1⟩
                  case done =>
                    rintro D ys W hD rfl ⟨hn, hB⟩ hK
                    have hwk : IntKind.i64.wrap ((m : Int) + 1) = (m : Int) + 1 := IntWalk.i64_in _ (by omega)
                    have hn0 : Hid (scopeAt fs k m = false) := by unfold Hid scopeAt; rw [← hf.out, ← hg.out]; exact scope_none hn
                    have hnx : Hid (∀ k', k' < m + 1 → scopeAt fs k k' = false) := fun j hj => by
                      rcases Nat.lt_or_ge j m with h1 | h1
                      · exact hsm.out j h1
                      · obtain rfl : j = m := by omega
                        exact hn0.out
                    have hMn : Hid (Marks w.heap.size W ({ target := .collected D, args := #[] } :: dm)) := hMs.out.more hB hD hwX hK
                    gi_wp2
                    refine ⟨⟨m + 1, { target := .collected D, args := #[] } :: dm, _, _, _, _, _, _, _, _, ⟨by omega, hnx.out, hXs.out.later hB, hbm.out.trans ((hbs.out.trans (hB.mono hbs.out.size)).mono hbm.out.size), hMn.out⟩, rfl⟩, ?_⟩
                    simp [intOf]
                    omega
                  case stop =>
                    rintro D c' pre W hD _ ⟨⟨rfl, hhit⟩, hE⟩ hK
                    have hMn : Hid (Marks w.heap.size W ({ target := .collected D, args := #[] } :: dm)) := ⟨⟨D, Nat.le_trans hwX hD, rfl, hK, fun e he ht => absurd (hMs.out.lt e he ht) (by omega)⟩, hMs.out.keep hE.others⟩
                    have hscope : Hid (scopeB fs = true) := scope_iff.2 ⟨k, m, hlm, hlt, hhit⟩
                    gi_wp2
                    refine leaves_marks (n := w.heap.size) _ W hMn.out fun W' hb hc => ?_
                    have hcell := cells1 (hc _ _ hE.c rfl)
                    refine ⟨.int .i64 9, ?_, by rw [hrest.out, hclash.out, hscope.out]; rfl, (hXs.out.b.trans (hE.b.mono (Nat.le_succ _))).trans hb⟩
                    simp [results, Tryd.f15, go_sem, hcell]
                · obtain rfl : m = k := by omega
                  have hnx : Hid (∀ i' k', k' < i' → i' < m + 1 → scopeAt fs i' k' = false) := fun i' k' h1 h2 => by
                    rcases Nat.lt_or_ge i' m with h3 | h3
                    · exact hsc.out i' k' h1 h3
                    · obtain rfl : i' = m := by omega
                      exact hsm.out k' h1
                  have hwk : IntKind.i64.wrap ((m : Int) + 1) = (m : Int) + 1 := IntWalk.i64_in _ (by omega)
                  gi_wp2
                  refine ⟨⟨m + 1, dm, _, _, _, _, _, _, _, _, _, _, _, _, _, _, _, _, _, _, _, _, _, ⟨by omega, hnx.out, hXm.out, hMm.out⟩, rfl⟩, ?_⟩
                  simp [intOf]
                  omega
              · obtain rfl : k = fs.length := by omega
                have hno : Hid (scopeB fs = false) := scope_no fun i' k' h1 h2 => hsc.out i' k' h1 h2
                gi_wp2
                have he := CkX.ends hX.out (.int .i64 0)
                have hs := set_cells hX.out.c1 (o := 0) (.int .i64 0)
                refine leaves_marks (n := w.heap.size) ds _ (hM.out.keep (KeepsOthers.setCell _ _ _).same) fun W' hb hc => ?_
                have hcell := cells1 (hc _ _ hs rfl)
                refine ⟨.int .i64 0, ?_, by rw [hrest.out, hclash.out, hno.out]; rfl, he.2.trans hb⟩
                simp [results, Tryd.f15, go_sem, hcell]

end Go.Proofs.YthojfhdenfhjfaaDoor
