/-
  The law RoofBeside: walked. PRINTED by genR32.py.
-/
import Derived.Test.YthojfhdenfhjfaaDoorRb00
set_option linter.all false
set_option linter.unusedVariables false
set_option linter.unusedSimpArgs false
namespace Go.Proofs.YthojfhdenfhjfaaDoor
open Go.RowKit Go.Lib Go.Shelf

set_option maxHeartbeats 20000000 in
set_option maxRecDepth 100000 in
theorem law3_any (r : Roof) (w : World) (hR : RdRoof w r) (hfa : FaX w) : Calls Tryd.prog 3 #[roofVal r] w fun e w' => e = .returned (.bool true) ∧ Below w.heap.size w w' := by
  have c14 : Hid (∀ V, Below w.heap.size w V → Calls Tryd.prog 14 #[roofVal r] V (GrPost V r)) := fun V hV => great_any r V (hR.below hV)
  have c16 : Hid (∀ V, Below w.heap.size w V → Calls Tryd.prog 16 #[] V fun e w' => e = .returned (.bool true) ∧ Below V.heap.size V w') := fun V hV => lives_any V (hfa.later hV)
  have c15 : Hid (Few r → ∀ V, Below w.heap.size w V → Calls Tryd.prog 15 #[roofVal r] V fun e w' => e = .returned (.int .i64 (checkR r)) ∧ Below V.heap.size V w') := fun hf V hV => check_any r V (hR.below hV) (by have := hf.1; omega) (by have := hf.2.1; omega)
  have c17 : Hid (Few r → checkR r = 0 → ∀ V, Below w.heap.size w V → Calls Tryd.prog 17 #[roofVal r] V fun e w' => Below V.heap.size V w' ∧ ∃ A c, e = .returned (.tuple #[.slice A (rowsL r.faces).length c, .bool true]) ∧ FlatRow encRow 5 w' A (rowsL r.faces)) := fun hf hz V hV => ledges_any r V (hR.below hV) (hfa.later hV) hz (by have := hf.1; omega) (by have := hf.2.1; omega)
  have hok : checkR r = 0 → OkFs r.faces := OkFs.of
  have hRR := Lib.hid hR
  obtain ⟨fs, os, fa, fc, oa, oc⟩ := r
  obtain ⟨hRF, hRO, hcf, hco⟩ := hR
  dsimp only [roofVal] at *
  obtain ⟨ce, hce⟩ : ∃ x, x = checkR ⟨fs, os, fa, fc, oa, oc⟩ := ⟨_, rfl⟩
  rw [← hce] at c15 c17 hok
  replace hce := Lib.hid hce
  have hB0 : Hid (Below w.heap.size w (w.alloc (.cells #[.slice fa fs.length fc, .slice oa os.length oc] 25))) := (Below.refl _ w).alloc (Nat.le_refl _) _
  have hc0 : Hid ((w.alloc (.cells #[.slice fa fs.length fc, .slice oa os.length oc] 25)).heap[w.heap.size]? = some (.cells #[.slice fa fs.length fc, .slice oa os.length oc] 25 (0, 0))) := heap_new _ _ _ rfl
  obtain ⟨W0, hW0⟩ : ∃ W0, W0 = w.alloc (.cells #[.slice fa fs.length fc, .slice oa os.length oc] 25) := ⟨_, rfl⟩
  rw [← hW0] at hB0 hc0
  go_enter Tryd.func3, Tryd.ntmps3
  go_upto_region 1 with fail
  rw [← hW0]
  replace hW0 := Lib.hid hW0
  obtain ⟨x0, x1⟩ := cells2 hc0.out
  go_wp2_with fail
  refine (c14.out _ hB0.out).mono ?_
  rintro e1 w1 (⟨rfl, hb1⟩ | ⟨rfl, hb1, hfew⟩)
  · go_wp2_with (go_at_call 16; (with_reducible refine (c16.out _ (hB0.out.trans (hb1.mono hB0.out.size))).mono ?_); rintro e2 w2 ⟨rfl, hb2⟩)
    go_ret
    exact ⟨rfl, hB0.out.trans ((hb1.trans (hb2.mono hb1.size)).mono hB0.out.size)⟩
  have hBw1 : Hid (Below w.heap.size w w1) := hB0.out.trans (hb1.mono hB0.out.size)
  have hc1 : Hid (w1.heap[w.heap.size]? = some (.cells #[.slice fa fs.length fc, .slice oa os.length oc] 25 (0, 0))) := (hb1.block _ (lt_block hc0.out)).trans hc0.out
  clear x0 x1
  obtain ⟨x0, x1⟩ := cells2 hc1.out
  have d15 := Lib.hid (c15.out hfew)
  by_cases hz : ce = 0
  · subst hz
    have hokf := Lib.hid (hok rfl)
    have d17 := Lib.hid (c17.out hfew rfl)
    have hrl : Hid ((rowsL fs).length = offs fs fs.length) := rows_len fs
    obtain ⟨L, hL⟩ : ∃ L, L = rowsL fs := ⟨_, rfl⟩
    rw [← hL] at d17 hrl
    have hLe : ∀ n, n < L.length → ∃ e, e ∈ edgesL fs ∧ L.getD n default = rowE fs e := fun n hn => by rw [hL] at hn ⊢; exact rows_edge hn
    replace hL := Lib.hid hL
    have hLe' := Lib.hid hLe
    clear hLe
    have hnl : L.length ≤ 1000 := by
      rw [hrl.out]
      have h1 := offs_small (c := 12) (fun i hi => (hokf.out.face i hi).most) fs.length (Nat.le_refl _)
      have h2 := hokf.out.most
      have h3 : fs.length * 12 ≤ 16 * 12 := Nat.mul_le_mul_right _ h2
      omega
    clear c14 c15 c17 hok
    have h15 : Hid (∀ V, Below w.heap.size w V → Calls Tryd.prog 15 #[.agg #[.slice fa fs.length fc, .slice oa os.length oc]] V fun e w' => e = .returned (.int .i64 0) ∧ Below V.heap.size V w') := d15.out
    clear d15
    go_wp2_with (first | (go_at_call 15; (with_reducible refine (h15.out _ hBw1.out).mono ?_); rintro e2 w2 ⟨rfl, hb2⟩; have hc2 : Hid (w2.heap[w.heap.size]? = some (.cells #[.slice fa fs.length fc, .slice oa os.length oc] 25 (0, 0))) := (hb2.block _ (lt_block hc1.out)).trans hc1.out; have hBw2 : Hid (Below w.heap.size w w2) := hBw1.out.trans (hb2.mono hBw1.out.size); clear x0 x1; obtain ⟨x0, x1⟩ := cells2 hc2.out) | (go_at_call 17; (with_reducible refine (d17.out _ hBw2.out).mono ?_); rintro e3 w3 ⟨hb3, A, c, rfl, hrow⟩))
    have hX3 : Hid (LwX w fs fa fc (.slice oa os.length oc) A L w3) := ⟨hBw2.out.trans (hb3.mono hBw2.out.size), (hb3.block _ (lt_block hc2.out)).trans hc2.out, hrow⟩
    clear x0 x1
    go_loopw [5] (fun t wr => ∃ n : Nat, t = .int .i64 n ∧ n ≤ L.length ∧ Hid (LwX w fs fa fc (.slice oa os.length oc) A L wr)) (fun t _ => L.length - (intOf t).toNat)
    case atStart => exact ⟨0, rfl, Nat.zero_le _, hX3.out⟩
    case round =>
      obtain ⟨n, rfl, hn, hX⟩ := hrel
      obtain ⟨x0, x1⟩ := cells2 hX.out.c
      by_cases hlt : n < L.length
      · obtain ⟨e, hem, her⟩ := hLe'.out n hlt
        obtain ⟨ad, hA, q0, q1, q2, q3, q4⟩ := hX.out.r.at_getD hlt rfl
        rw [her] at q0 q1 q2 q3 q4
        subst hA
        have hwk : IntKind.i64.wrap ((n : Int) + 1) = (n : Int) + 1 := IntWalk.i64_in _ (by omega)
        obtain ⟨x, hx⟩ : ∃ x, x = rowE fs e := ⟨_, rfl⟩
        rw [← hx] at q0 q1 q2 q3 q4
        replace her := Lib.hid her
        have hlti : (n : Int) < (L.length : Int) := by omega
        have hba : Hid (Below wr.heap.size wr (wr.alloc (.cells #[.int .i64 x.face, .int .i64 x.number, .int .i64 x.kind, .int .i64 x.withF, .int .i64 x.atE] 35))) := (Below.refl _ wr).alloc (Nat.le_refl _) _
        have hXa := Lib.hid (hX.out.later hba.out)
        have hxa : Hid ((wr.alloc (.cells #[.int .i64 x.face, .int .i64 x.number, .int .i64 x.kind, .int .i64 x.withF, .int .i64 x.atE] 35)).heap[wr.heap.size]? = some (.cells (rowCells x) 35 (0, 0))) := heap_new _ _ _ rfl
        obtain ⟨z0, z1, z2, z3, z4⟩ := cells5 hxa.out
        clear x0 x1
        obtain ⟨x0, x1⟩ := cells2 hXa.out.c
        cases hoe : otherE fs e with
        | none =>
          obtain ⟨h1, h2, h3, h4⟩ := row_alone hoe
          rw [← hx] at h1 h2 h3 h4
          have hkk : x.kind = 1 ∨ x.kind = 2 ∨ x.kind = 3 := by omega
          rw [h1] at q3 z3
          rw [h2] at q4 z4
          have hfin : Hid (LwX w fs fa fc (.slice oa os.length oc) (some ad) L (wr.alloc (.cells #[.int .i64 x.face, .int .i64 x.number, .int .i64 x.kind, .int .i64 x.withF, .int .i64 x.atE] 35))) := hXa.out
          replace hx := Lib.hid hx
          replace h1 := Lib.hid h1
          replace h2 := Lib.hid h2
          replace hoe := Lib.hid hoe
          rcases hkk with hk | hk | hk
          all_goals
            rw [hk] at q2 z2
            rw [hk, h1.out, h2.out] at hfin
            replace hk := Lib.hid hk
            go_wp2
            exact ⟨⟨n + 1, by go_num, by omega, hfin.out⟩, by simp only [intOf]; omega⟩
        | some o =>
          obtain ⟨i0, k0, j0, m0, kd, hi0, hk0, hj0, hm0, hne, hkd4, hkd9, rfl, rfl, hxe, hye, hsid, hkp⟩ := row_pair hokf.out hem hoe
          obtain rfl : x = ⟨(i0 : Int), (k0 : Int), kd, (j0 : Int), (m0 : Int)⟩ := hx.trans hxe
          dsimp only at *
          have hyr : L.getD (offs fs j0 + m0) default = ⟨(j0 : Int), (m0 : Int), kd, (i0 : Int), (k0 : Int)⟩ := by rw [hL.out, rows_at fs hj0 hm0]; exact hye
          have hyl : offs fs j0 + m0 < L.length := by
            rw [hrl.out]
            have := offs_mono fs (show j0 + 1 ≤ fs.length by omega)
            have e2 : offs fs (j0 + 1) = offs fs j0 + lenF fs j0 := rfl
            omega
          have c18 : Hid (∀ V, Below w.heap.size w V → FlatRow encRow 5 V (some ad) L → Calls Tryd.prog 18 #[.agg #[.slice fa fs.length fc, .slice oa os.length oc], .slice (some ad) L.length c, .int .i64 (j0 : Int), .int .i64 (m0 : Int)] V fun e w' => e = .returned (.tuple #[rowVal ⟨(j0 : Int), (m0 : Int), kd, (i0 : Int), (k0 : Int)⟩, .bool true]) ∧ Below V.heap.size V w') := fun V hV hLV => by
            have := ledge_any ⟨fs, os, fa, fc, oa, oc⟩ (some ad) c L j0 m0 V (hRR.out.below hV) hLV hj0 hm0 hyl (fun j hj => Nat.le_trans (hokf.out.face j hj).most (by omega)) (Nat.le_trans hokf.out.most (by omega))
            rw [hyr] at this
            exact this
          clear hkp
          have hk1 : (kd == 1) = false := by simp; omega
          have hk2 : (kd == 2) = false := by simp; omega
          have hk3 : (kd == 3) = false := by simp; omega
          have hjn : ¬ ((j0 : Int) < 0) := by omega
          have hij : ((j0 : Int) == (i0 : Int)) = false := by simp; omega
          have hne2 : ¬ j0 = i0 := fun e => hne e.symm
          replace hsid := Lib.hid hsid
          replace hyr := Lib.hid hyr
          replace hx := Lib.hid hx
          replace hxe := Lib.hid hxe
          replace hye := Lib.hid hye
          replace hoe := Lib.hid hoe
          go_upto_region 15 with (go_at_call 18; (with_reducible refine (c18.out _ hXa.out.b hXa.out.r).mono ?_); rintro e2 w4 ⟨rfl, hb4⟩)
          obtain ⟨wY, hwY⟩ : ∃ z, z = w4.alloc (.cells #[.int .i64 (j0 : Int), .int .i64 (m0 : Int), .int .i64 kd, .int .i64 (i0 : Int), .int .i64 (k0 : Int)] 35) := ⟨_, rfl⟩
          rw [← hwY]
          have hb4' : Below wr.heap.size wr w4 := hba.out.trans (hb4.mono hba.out.size)
          have hbY : Below wr.heap.size wr wY := by rw [hwY]; exact hb4'.alloc hb4'.size _
          have hXY := Lib.hid (hX.out.later hbY)
          have hxY : Hid (wY.heap[wr.heap.size]? = some (.cells (rowCells ⟨(i0 : Int), (k0 : Int), kd, (j0 : Int), (m0 : Int)⟩) 35 (0, 0))) := by rw [hwY]; exact heap_old _ _ _ _ ((hb4.block _ (lt_block hxa.out)).trans hxa.out)
          have hyY : Hid (wY.heap[w4.heap.size]? = some (.cells (rowCells ⟨(j0 : Int), (m0 : Int), kd, (i0 : Int), (k0 : Int)⟩) 35 (0, 0))) := by rw [hwY]; exact heap_new _ _ _ rfl
          replace hwY := Lib.hid hwY
          clear z0 z1 z2 z3 z4 x0 x1 q0 q1 q2 q3 q4
          obtain ⟨x0, x1⟩ := cells2 hXY.out.c
          obtain ⟨z0, z1, z2, z3, z4⟩ := cells5 hxY.out
          obtain ⟨y0, y1, y2, y3, y4⟩ := cells5 hyY.out
          go_upto_region 17 with fail
          clear x0 x1 z0 z1 z2 z3 z4 y0 y1 y2 y3 y4
          obtain ⟨adf, hfe, _⟩ := hRF.at7 hi0
          subst hfe
          obtain ⟨fi, hfi⟩ : ∃ f, f = fs.getD i0 default := ⟨_, rfl⟩
          obtain ⟨fj, hfj⟩ : ∃ f, f = fs.getD j0 default := ⟨_, rfl⟩
          rw [← hfi, ← hfj] at hsid
          obtain ⟨p, hp⟩ : ∃ p, p = (sideAt fi.corners k0).a := ⟨_, rfl⟩
          obtain ⟨q, hq⟩ : ∃ q, q = (sideAt fi.corners k0).b := ⟨_, rfl⟩
          have hcl : Hid (∀ V, Below w.heap.size w V → LwX w fs (some adf) fc (.slice oa os.length oc) (some ad) L V → V.heap[wr.heap.size]? = some (.cells (rowCells ⟨(i0 : Int), (k0 : Int), kd, (j0 : Int), (m0 : Int)⟩) 35 (0, 0)) → V.heap[w4.heap.size]? = some (.cells (rowCells ⟨(j0 : Int), (m0 : Int), kd, (i0 : Int), (k0 : Int)⟩) 35 (0, 0)) →
              (V.cell? ⟨w.heap.size, 0, none⟩ = some (.slice (some adf) fs.length fc) ∧ V.cell? ⟨w.heap.size, 1, none⟩ = some (.slice oa os.length oc)) ∧
              (V.cell? ⟨wr.heap.size, 0, none⟩ = some (.int .i64 (i0 : Int)) ∧ V.cell? ⟨wr.heap.size, 1, none⟩ = some (.int .i64 (k0 : Int)) ∧ V.cell? ⟨wr.heap.size, 2, none⟩ = some (.int .i64 kd) ∧ V.cell? ⟨wr.heap.size, 3, none⟩ = some (.int .i64 (j0 : Int)) ∧ V.cell? ⟨wr.heap.size, 4, none⟩ = some (.int .i64 (m0 : Int))) ∧
              (V.cell? ⟨w4.heap.size, 0, none⟩ = some (.int .i64 (j0 : Int)) ∧ V.cell? ⟨w4.heap.size, 1, none⟩ = some (.int .i64 (m0 : Int)) ∧ V.cell? ⟨w4.heap.size, 2, none⟩ = some (.int .i64 kd) ∧ V.cell? ⟨w4.heap.size, 3, none⟩ = some (.int .i64 (i0 : Int)) ∧ V.cell? ⟨w4.heap.size, 4, none⟩ = some (.int .i64 (k0 : Int))) ∧
              (V.cell? (adf.add (i0 * 7)) = some (.string fi.name) ∧ V.cell? ⟨(adf.add (i0 * 7)).block, (adf.add (i0 * 7)).off + 1, none⟩ = some (.int .i64 fi.side) ∧ V.cell? ⟨(adf.add (i0 * 7)).block, (adf.add (i0 * 7)).off + 2, none⟩ = some (.int .i64 fi.foot) ∧
              V.cell? ⟨(adf.add (i0 * 7)).block, (adf.add (i0 * 7)).off + 3, none⟩ = some (.int .i64 fi.base) ∧ V.cell? ⟨(adf.add (i0 * 7)).block, (adf.add (i0 * 7)).off + 4, none⟩ = some (.int .i64 fi.rise) ∧ V.cell? ⟨(adf.add (i0 * 7)).block, (adf.add (i0 * 7)).off + 5, none⟩ = some (.int .i64 fi.run) ∧
              V.cell? ⟨(adf.add (i0 * 7)).block, (adf.add (i0 * 7)).off + 6, none⟩ = some (.slice fi.ca fi.corners.length fi.cc)) ∧ (V.cell? (adf.add (j0 * 7)) = some (.string fj.name) ∧ V.cell? ⟨(adf.add (j0 * 7)).block, (adf.add (j0 * 7)).off + 1, none⟩ = some (.int .i64 fj.side) ∧ V.cell? ⟨(adf.add (j0 * 7)).block, (adf.add (j0 * 7)).off + 2, none⟩ = some (.int .i64 fj.foot) ∧
              V.cell? ⟨(adf.add (j0 * 7)).block, (adf.add (j0 * 7)).off + 3, none⟩ = some (.int .i64 fj.base) ∧ V.cell? ⟨(adf.add (j0 * 7)).block, (adf.add (j0 * 7)).off + 4, none⟩ = some (.int .i64 fj.rise) ∧ V.cell? ⟨(adf.add (j0 * 7)).block, (adf.add (j0 * 7)).off + 5, none⟩ = some (.int .i64 fj.run) ∧
              V.cell? ⟨(adf.add (j0 * 7)).block, (adf.add (j0 * 7)).off + 6, none⟩ = some (.slice fj.ca fj.corners.length fj.cc))) := fun V hb h1 h2 h3 => by
            obtain ⟨a1, e1, g1⟩ := (hRF.below hb).at7 hi0
            obtain ⟨a2, e2, g2⟩ := (hRF.below hb).at7 hj0
            cases e1
            cases e2
            rw [← hfi] at g1
            rw [← hfj] at g2
            exact ⟨cells2 h1.c, cells5 h2, cells5 h3, g1, g2⟩
          have c19i : Hid (∀ V, Below w.heap.size w V → Calls Tryd.prog 19 #[faceVal fi, .int .i64 (k0 : Int)] V fun e w' => e = .returned (.tuple #[pntVal p, pntVal q]) ∧ Below V.heap.size V w') := fun V hV => by
            rw [hp, hq]
            exact lends_any fi k0 V ((hRF.below hV).2 fi (by rw [hfi]; exact nth_mem hi0)).1 (by rw [hfi]; exact hk0) (by rw [hfi]; exact Nat.le_trans (hokf.out.face i0 hi0).most (by omega))
          have c19j : Hid (∀ V, Below w.heap.size w V → Calls Tryd.prog 19 #[faceVal fj, .int .i64 (m0 : Int)] V fun e w' => e = .returned (.tuple #[pntVal q, pntVal p]) ∧ Below V.heap.size V w') := fun V hV => by
            have := lends_any fj m0 V ((hRF.below hV).2 fj (by rw [hfj]; exact nth_mem hj0)).1 (by rw [hfj]; exact hm0) (by rw [hfj]; exact Nat.le_trans (hokf.out.face j0 hj0).most (by omega))
            rw [hsid.out] at this
            rw [hp, hq]
            exact this
          replace hfi := Lib.hid hfi
          replace hfj := Lib.hid hfj
          replace hp := Lib.hid hp
          replace hq := Lib.hid hq
          have hcl1 : Hid (∀ V, Below wY.heap.size wY V → _) := fun V hb => hcl.out V (hXY.out.b.trans (hb.mono hXY.out.b.size)) (hXY.out.later hb) ((hb.block _ (lt_block hxY.out)).trans hxY.out) ((hb.block _ (lt_block hyY.out)).trans hyY.out)
          have d19i : Hid (∀ V, Below wY.heap.size wY V → Calls Tryd.prog 19 #[faceVal fi, .int .i64 (k0 : Int)] V fun e w' => e = .returned (.tuple #[pntVal p, pntVal q]) ∧ Below V.heap.size V w') := fun V hb => c19i.out V (hXY.out.b.trans (hb.mono hXY.out.b.size))
          dsimp only [faceVal] at d19i
          refine wp_name fun A hA => ?_
          refine Code.wp_mono (Q := AtEnd fun a' w' => EndsPost wY (p) (q) (fun b1 b2 => ((((((((((((((A.put (some 10) (.pointer (some ⟨b1, 0, none⟩))).put (some 11) (.pointer (some ⟨b2, 0, none⟩))).put (some 110) (.tuple #[pntVal p, pntVal q])).put (some 111) (.pointer (some ⟨w.heap.size, 0, none⟩))).put (some 112) (.slice (some adf) fs.length fc)).put (some 113) (.pointer (some ⟨wr.heap.size, 0, none⟩))).put (some 114) (.int .i64 (i0 : Int))).put (some 115) (.pointer (some (adf.add (i0 * 7))))).put (some 116) (.agg (fCells fi))).put (some 117) (.pointer (some ⟨wr.heap.size, 1, none⟩))).put (some 118) (.int .i64 (k0 : Int))).put (some 119) (.tuple #[pntVal p, pntVal q])).put (some 120) (pntVal p)).put (some 121) (pntVal q))) a' w') (AtEnd.elim fun a' w8 => ?_) ?_
          rotate_left
          · obtain ⟨wq, hwq⟩ : ∃ z, z = wY.drew := ⟨_, rfl⟩
            have hS : Below wY.heap.size wY wq := by rw [hwq]; exact (Below.refl _ _).drew
            refine wp_region_tri (fun V' => Below wY.heap.size wY V') (.pure 0 (.read 1 (.pure 2 (.read 3 (.pure 4 (.read 5 (.pure 6 (.read 7 (.three 8 (.pure 9 (.pure 10 (.pure 11 (.two 12 (.one 13 (.one 14 (.one 15 .done))) 13 (.one 12 (.one 14 (.one 15 .done))))))) 12 (.two 8 (.pure 9 (.pure 10 (.pure 11 (.one 13 (.one 14 (.one 15 .done)))))) 13 (.one 8 (.pure 9 (.pure 10 (.pure 11 (.one 14 (.one 15 .done))))))) 13 (.two 8 (.pure 9 (.pure 10 (.pure 11 (.one 12 (.one 14 (.one 15 .done)))))) 12 (.one 8 (.pure 9 (.pure 10 (.pure 11 (.one 14 (.one 15 .done)))))))))))))))) [14, 15] (by kernel_rfl) (by kernel_rfl) (by rw [← hwq]; exact hS) ?_
            rw [← hwq]
            replace hwq := Lib.hid hwq
            refine wpTri_pure (v := ?_) rfl (by rfl) ?_ (fun _ _ _ h => h) ?_
            rotate_left
            focus (intro w'; (try simp only [List.getElem_toArray, List.getElem_cons_zero, List.getElem_cons_succ]); go_simp; try with_reducible rfl)
            (try simp only [List.getElem_toArray, List.getElem_cons_zero, List.getElem_cons_succ, Act.put, List.setIfInBounds_toArray, List.set_cons_zero, List.set_cons_succ])
            refine wpTri_take (v := ?_) rfl (by rfl) ?_ (fun _ _ _ h => h) ?_
            rotate_left
            focus (intro w' hSw; obtain ⟨⟨x0, x1⟩, ⟨z0, z1, z2, z3, z4⟩, ⟨y0, y1, y2, y3, y4⟩, ⟨p0, p1, p2, p3, p4, p5, p6⟩, ⟨s0, s1, s2, s3, s4, s5, s6⟩⟩ := hcl1.out _ hSw; clear hSw; (try simp only [List.getElem_toArray, List.getElem_cons_zero, List.getElem_cons_succ]); go_simp; try with_reducible rfl)
            (try simp only [List.getElem_toArray, List.getElem_cons_zero, List.getElem_cons_succ, Act.put, List.setIfInBounds_toArray, List.set_cons_zero, List.set_cons_succ])
            refine wpTri_pure (v := ?_) rfl (by rfl) ?_ (fun _ _ _ h => h) ?_
            rotate_left
            focus (intro w'; (try simp only [List.getElem_toArray, List.getElem_cons_zero, List.getElem_cons_succ]); go_simp; try with_reducible rfl)
            (try simp only [List.getElem_toArray, List.getElem_cons_zero, List.getElem_cons_succ, Act.put, List.setIfInBounds_toArray, List.set_cons_zero, List.set_cons_succ])
            refine wpTri_take (v := ?_) rfl (by rfl) ?_ (fun _ _ _ h => h) ?_
            rotate_left
            focus (intro w' hSw; obtain ⟨⟨x0, x1⟩, ⟨z0, z1, z2, z3, z4⟩, ⟨y0, y1, y2, y3, y4⟩, ⟨p0, p1, p2, p3, p4, p5, p6⟩, ⟨s0, s1, s2, s3, s4, s5, s6⟩⟩ := hcl1.out _ hSw; clear hSw; (try simp only [List.getElem_toArray, List.getElem_cons_zero, List.getElem_cons_succ]); go_simp; try with_reducible rfl)
            (try simp only [List.getElem_toArray, List.getElem_cons_zero, List.getElem_cons_succ, Act.put, List.setIfInBounds_toArray, List.set_cons_zero, List.set_cons_succ])
            refine wpTri_pure (v := ?_) rfl (by rfl) ?_ (fun _ _ _ h => h) ?_
            rotate_left
            focus (intro w'; (try simp only [List.getElem_toArray, List.getElem_cons_zero, List.getElem_cons_succ]); go_simp; try with_reducible rfl)
            (try simp only [List.getElem_toArray, List.getElem_cons_zero, List.getElem_cons_succ, Act.put, List.setIfInBounds_toArray, List.set_cons_zero, List.set_cons_succ])
            refine wpTri_take (v := ?_) rfl (by rfl) ?_ (fun _ _ _ h => h) ?_
            rotate_left
            focus (intro w' hSw; obtain ⟨⟨x0, x1⟩, ⟨z0, z1, z2, z3, z4⟩, ⟨y0, y1, y2, y3, y4⟩, ⟨p0, p1, p2, p3, p4, p5, p6⟩, ⟨s0, s1, s2, s3, s4, s5, s6⟩⟩ := hcl1.out _ hSw; clear hSw; (try simp only [List.getElem_toArray, List.getElem_cons_zero, List.getElem_cons_succ]); go_simp; try with_reducible rfl)
            (try simp only [List.getElem_toArray, List.getElem_cons_zero, List.getElem_cons_succ, Act.put, List.setIfInBounds_toArray, List.set_cons_zero, List.set_cons_succ])
            refine wpTri_pure (v := ?_) rfl (by rfl) ?_ (fun _ _ _ h => h) ?_
            rotate_left
            focus (intro w'; (try simp only [List.getElem_toArray, List.getElem_cons_zero, List.getElem_cons_succ]); go_simp; try with_reducible rfl)
            (try simp only [List.getElem_toArray, List.getElem_cons_zero, List.getElem_cons_succ, Act.put, List.setIfInBounds_toArray, List.set_cons_zero, List.set_cons_succ])
            refine wpTri_take (v := ?_) rfl (by rfl) ?_ (fun _ _ _ h => h) ?_
            rotate_left
            focus (intro w' hSw; obtain ⟨⟨x0, x1⟩, ⟨z0, z1, z2, z3, z4⟩, ⟨y0, y1, y2, y3, y4⟩, ⟨p0, p1, p2, p3, p4, p5, p6⟩, ⟨s0, s1, s2, s3, s4, s5, s6⟩⟩ := hcl1.out _ hSw; clear hSw; (try simp only [List.getElem_toArray, List.getElem_cons_zero, List.getElem_cons_succ]); go_simp; try with_reducible rfl)
            (try simp only [List.getElem_toArray, List.getElem_cons_zero, List.getElem_cons_succ, Act.put, List.setIfInBounds_toArray, List.set_cons_zero, List.set_cons_succ])
            refine wpTri_three rfl (by rfl) rfl (by rfl) rfl (by rfl) ?_ ?_ ?_
            · (try simp only [List.getElem_toArray, List.getElem_cons_zero, List.getElem_cons_succ])
              go_simp
              go_at_call 19
              (with_reducible refine (d19i.out _ hS).mono ?_)
              rintro e2 wqc ⟨rfl, hbc⟩
              have hSq := hS
              have hS := hS.trans (hbc.mono hS.size)
              refine ⟨by intros; exact hS, ?_⟩
              (try simp only [List.getElem_toArray, List.getElem_cons_zero, List.getElem_cons_succ, Act.put, List.setIfInBounds_toArray, List.set_cons_zero, List.set_cons_succ])
              refine wpTri_pure (v := ?_) rfl (by rfl) ?_ (fun _ _ _ h => h) ?_
              rotate_left
              focus (intro w'; (try simp only [List.getElem_toArray, List.getElem_cons_zero, List.getElem_cons_succ]); go_simp; try with_reducible rfl)
              (try simp only [List.getElem_toArray, List.getElem_cons_zero, List.getElem_cons_succ, Act.put, List.setIfInBounds_toArray, List.set_cons_zero, List.set_cons_succ])
              refine wpTri_pure (v := ?_) rfl (by rfl) ?_ (fun _ _ _ h => h) ?_
              rotate_left
              focus (intro w'; (try simp only [List.getElem_toArray, List.getElem_cons_zero, List.getElem_cons_succ]); go_simp; try with_reducible rfl)
              (try simp only [List.getElem_toArray, List.getElem_cons_zero, List.getElem_cons_succ, Act.put, List.setIfInBounds_toArray, List.set_cons_zero, List.set_cons_succ])
              refine wpTri_pure (v := ?_) rfl (by rfl) ?_ (fun _ _ _ h => h) ?_
              rotate_left
              focus (intro w'; (try simp only [List.getElem_toArray, List.getElem_cons_zero, List.getElem_cons_succ]); go_simp; try with_reducible rfl)
              (try simp only [List.getElem_toArray, List.getElem_cons_zero, List.getElem_cons_succ, Act.put, List.setIfInBounds_toArray, List.set_cons_zero, List.set_cons_succ])
              refine wpTri_two rfl (by rfl) rfl (by rfl) ?_ ?_
              · (try simp only [List.getElem_toArray, List.getElem_cons_zero, List.getElem_cons_succ])
                go_simp
                obtain ⟨wqca, hwn⟩ : ∃ z, z = wqc.alloc (.cells #[.int .i64 0, .int .i64 0] 39) := ⟨_, rfl⟩
                rw [← hwn]
                have h1 : wqca.heap[wqc.heap.size]? = some (.cells #[.int .i64 0, .int .i64 0] 39 (0, 0)) := by rw [hwn]; exact heap_new _ _ _ rfl
                have lh1 : wY.heap.size ≤ wqc.heap.size := hS.size
                have hS : Below wY.heap.size wY wqca := by rw [hwn]; exact hS.alloc hS.size _
                replace hwn := Lib.hid hwn
                refine ⟨by intros; exact hS, ?_⟩
                (try simp only [List.getElem_toArray, List.getElem_cons_zero, List.getElem_cons_succ, Act.put, List.setIfInBounds_toArray, List.set_cons_zero, List.set_cons_succ])
                refine wpTri_do rfl (by rfl) ?_
                (try simp only [List.getElem_toArray, List.getElem_cons_zero, List.getElem_cons_succ])
                go_simp
                obtain ⟨wqcab, hwn⟩ : ∃ z, z = wqca.alloc (.cells #[.int .i64 0, .int .i64 0] 39) := ⟨_, rfl⟩
                rw [← hwn]
                have h2 : wqcab.heap[wqca.heap.size]? = some (.cells #[.int .i64 0, .int .i64 0] 39 (0, 0)) := by rw [hwn]; exact heap_new _ _ _ rfl
                have lh2 : wY.heap.size ≤ wqca.heap.size := hS.size
                have ne : wqc.heap.size ≠ wqca.heap.size := Nat.ne_of_lt (lt_block h1)
                have h1 : wqcab.heap[wqc.heap.size]? = some (.cells #[.int .i64 0, .int .i64 0] 39 (0, 0)) := by rw [hwn]; exact heap_old _ _ _ _ h1
                have hS : Below wY.heap.size wY wqcab := by rw [hwn]; exact hS.alloc hS.size _
                replace hwn := Lib.hid hwn
                refine ⟨by intros; exact hS, ?_⟩
                (try simp only [List.getElem_toArray, List.getElem_cons_zero, List.getElem_cons_succ, Act.put, List.setIfInBounds_toArray, List.set_cons_zero, List.set_cons_succ])
                refine wpTri_do rfl (by rfl) ?_
                (try simp only [List.getElem_toArray, List.getElem_cons_zero, List.getElem_cons_succ])
                obtain ⟨y0, y1⟩ := cells2 h1
                have f0 := frozen_row h1 0
                have f1 := frozen_row h1 1
                go_simp
                clear y0 y1 f0 f1
                obtain ⟨wqcabx, hwn⟩ : ∃ z, z = (wqcab.setCell ⟨wqc.heap.size, 0, none⟩ (.int .i64 (p).x)).setCell ⟨wqc.heap.size, 1, none⟩ (.int .i64 (p).y) := ⟨_, rfl⟩
                rw [← hwn]
                have h2 := (((Below.heap_setCell (wqcab.setCell ⟨wqc.heap.size, 0, none⟩ (.int .i64 (p).x)) ⟨wqc.heap.size, 1, none⟩ (.int .i64 (p).y) _ ne.symm).trans (Below.heap_setCell wqcab ⟨wqc.heap.size, 0, none⟩ (.int .i64 (p).x) _ ne.symm)).trans h2)
                have h1 : wqcabx.heap[wqc.heap.size]? = some (.cells #[.int .i64 (p).x, .int .i64 (p).y] 39 (0, 0)) := by rw [hwn]; exact set_cells (set_cells h1 (o := 0) _) (o := 1) _
                rw [← hwn] at h2
                have hS : Below wY.heap.size wY wqcabx := by rw [hwn]; exact (hS.setCell (p := ⟨wqc.heap.size, 0, none⟩) lh1 _).setCell (p := ⟨wqc.heap.size, 1, none⟩) lh1 _
                replace hwn := Lib.hid hwn
                (try simp only [List.getElem_toArray, List.getElem_cons_zero, List.getElem_cons_succ, Act.put, List.setIfInBounds_toArray, List.set_cons_zero, List.set_cons_succ])
                refine wpTri_do rfl (by rfl) ?_
                (try simp only [List.getElem_toArray, List.getElem_cons_zero, List.getElem_cons_succ])
                obtain ⟨y0, y1⟩ := cells2 h2
                have f0 := frozen_row h2 0
                have f1 := frozen_row h2 1
                go_simp
                clear y0 y1 f0 f1
                obtain ⟨wqcabxy, hwn⟩ : ∃ z, z = (wqcabx.setCell ⟨wqca.heap.size, 0, none⟩ (.int .i64 (q).x)).setCell ⟨wqca.heap.size, 1, none⟩ (.int .i64 (q).y) := ⟨_, rfl⟩
                rw [← hwn]
                have h1 := (((Below.heap_setCell (wqcabx.setCell ⟨wqca.heap.size, 0, none⟩ (.int .i64 (q).x)) ⟨wqca.heap.size, 1, none⟩ (.int .i64 (q).y) _ ne).trans (Below.heap_setCell wqcabx ⟨wqca.heap.size, 0, none⟩ (.int .i64 (q).x) _ ne)).trans h1)
                have h2 : wqcabxy.heap[wqca.heap.size]? = some (.cells #[.int .i64 (q).x, .int .i64 (q).y] 39 (0, 0)) := by rw [hwn]; exact set_cells (set_cells h2 (o := 0) _) (o := 1) _
                rw [← hwn] at h1
                have hS : Below wY.heap.size wY wqcabxy := by rw [hwn]; exact (hS.setCell (p := ⟨wqca.heap.size, 0, none⟩) lh2 _).setCell (p := ⟨wqca.heap.size, 1, none⟩) lh2 _
                replace hwn := Lib.hid hwn
                (try simp only [List.getElem_toArray, List.getElem_cons_zero, List.getElem_cons_succ, Act.put, List.setIfInBounds_toArray, List.set_cons_zero, List.set_cons_succ])
                (try unfold wpTri)
                exact ⟨wqc.heap.size, wqca.heap.size, lh1, lh2, hS, h1, h2, by rw [hA.out]; simp only [Act.put, List.setIfInBounds_toArray, List.set_cons_zero, List.set_cons_succ]⟩
              · (try simp only [List.getElem_toArray, List.getElem_cons_zero, List.getElem_cons_succ])
                go_simp
                obtain ⟨wqcb, hwn⟩ : ∃ z, z = wqc.alloc (.cells #[.int .i64 0, .int .i64 0] 39) := ⟨_, rfl⟩
                rw [← hwn]
                have h2 : wqcb.heap[wqc.heap.size]? = some (.cells #[.int .i64 0, .int .i64 0] 39 (0, 0)) := by rw [hwn]; exact heap_new _ _ _ rfl
                have lh2 : wY.heap.size ≤ wqc.heap.size := hS.size
                have hS : Below wY.heap.size wY wqcb := by rw [hwn]; exact hS.alloc hS.size _
                replace hwn := Lib.hid hwn
                refine ⟨by intros; exact hS, ?_⟩
                (try simp only [List.getElem_toArray, List.getElem_cons_zero, List.getElem_cons_succ, Act.put, List.setIfInBounds_toArray, List.set_cons_zero, List.set_cons_succ])
                refine wpTri_do rfl (by rfl) ?_
                (try simp only [List.getElem_toArray, List.getElem_cons_zero, List.getElem_cons_succ])
                go_simp
                obtain ⟨wqcba, hwn⟩ : ∃ z, z = wqcb.alloc (.cells #[.int .i64 0, .int .i64 0] 39) := ⟨_, rfl⟩
                rw [← hwn]
                have h1 : wqcba.heap[wqcb.heap.size]? = some (.cells #[.int .i64 0, .int .i64 0] 39 (0, 0)) := by rw [hwn]; exact heap_new _ _ _ rfl
                have lh1 : wY.heap.size ≤ wqcb.heap.size := hS.size
                have ne : wqc.heap.size ≠ wqcb.heap.size := Nat.ne_of_lt (lt_block h2)
                have h2 : wqcba.heap[wqc.heap.size]? = some (.cells #[.int .i64 0, .int .i64 0] 39 (0, 0)) := by rw [hwn]; exact heap_old _ _ _ _ h2
                have hS : Below wY.heap.size wY wqcba := by rw [hwn]; exact hS.alloc hS.size _
                replace hwn := Lib.hid hwn
                refine ⟨by intros; exact hS, ?_⟩
                (try simp only [List.getElem_toArray, List.getElem_cons_zero, List.getElem_cons_succ, Act.put, List.setIfInBounds_toArray, List.set_cons_zero, List.set_cons_succ])
                refine wpTri_do rfl (by rfl) ?_
                (try simp only [List.getElem_toArray, List.getElem_cons_zero, List.getElem_cons_succ])
                obtain ⟨y0, y1⟩ := cells2 h1
                have f0 := frozen_row h1 0
                have f1 := frozen_row h1 1
                go_simp
                clear y0 y1 f0 f1
                obtain ⟨wqcbax, hwn⟩ : ∃ z, z = (wqcba.setCell ⟨wqcb.heap.size, 0, none⟩ (.int .i64 (p).x)).setCell ⟨wqcb.heap.size, 1, none⟩ (.int .i64 (p).y) := ⟨_, rfl⟩
                rw [← hwn]
                have h2 := (((Below.heap_setCell (wqcba.setCell ⟨wqcb.heap.size, 0, none⟩ (.int .i64 (p).x)) ⟨wqcb.heap.size, 1, none⟩ (.int .i64 (p).y) _ ne).trans (Below.heap_setCell wqcba ⟨wqcb.heap.size, 0, none⟩ (.int .i64 (p).x) _ ne)).trans h2)
                have h1 : wqcbax.heap[wqcb.heap.size]? = some (.cells #[.int .i64 (p).x, .int .i64 (p).y] 39 (0, 0)) := by rw [hwn]; exact set_cells (set_cells h1 (o := 0) _) (o := 1) _
                rw [← hwn] at h2
                have hS : Below wY.heap.size wY wqcbax := by rw [hwn]; exact (hS.setCell (p := ⟨wqcb.heap.size, 0, none⟩) lh1 _).setCell (p := ⟨wqcb.heap.size, 1, none⟩) lh1 _
                replace hwn := Lib.hid hwn
                (try simp only [List.getElem_toArray, List.getElem_cons_zero, List.getElem_cons_succ, Act.put, List.setIfInBounds_toArray, List.set_cons_zero, List.set_cons_succ])
                refine wpTri_do rfl (by rfl) ?_
                (try simp only [List.getElem_toArray, List.getElem_cons_zero, List.getElem_cons_succ])
                obtain ⟨y0, y1⟩ := cells2 h2
                have f0 := frozen_row h2 0
                have f1 := frozen_row h2 1
                go_simp
                clear y0 y1 f0 f1
                obtain ⟨wqcbaxy, hwn⟩ : ∃ z, z = (wqcbax.setCell ⟨wqc.heap.size, 0, none⟩ (.int .i64 (q).x)).setCell ⟨wqc.heap.size, 1, none⟩ (.int .i64 (q).y) := ⟨_, rfl⟩
                rw [← hwn]
                have h1 := (((Below.heap_setCell (wqcbax.setCell ⟨wqc.heap.size, 0, none⟩ (.int .i64 (q).x)) ⟨wqc.heap.size, 1, none⟩ (.int .i64 (q).y) _ ne.symm).trans (Below.heap_setCell wqcbax ⟨wqc.heap.size, 0, none⟩ (.int .i64 (q).x) _ ne.symm)).trans h1)
                have h2 : wqcbaxy.heap[wqc.heap.size]? = some (.cells #[.int .i64 (q).x, .int .i64 (q).y] 39 (0, 0)) := by rw [hwn]; exact set_cells (set_cells h2 (o := 0) _) (o := 1) _
                rw [← hwn] at h1
                have hS : Below wY.heap.size wY wqcbaxy := by rw [hwn]; exact (hS.setCell (p := ⟨wqc.heap.size, 0, none⟩) lh2 _).setCell (p := ⟨wqc.heap.size, 1, none⟩) lh2 _
                replace hwn := Lib.hid hwn
                (try simp only [List.getElem_toArray, List.getElem_cons_zero, List.getElem_cons_succ, Act.put, List.setIfInBounds_toArray, List.set_cons_zero, List.set_cons_succ])
                (try unfold wpTri)
                exact ⟨wqcb.heap.size, wqc.heap.size, lh1, lh2, hS, h1, h2, by rw [hA.out]; simp only [Act.put, List.setIfInBounds_toArray, List.set_cons_zero, List.set_cons_succ]⟩
            · (try simp only [List.getElem_toArray, List.getElem_cons_zero, List.getElem_cons_succ])
              go_simp
              obtain ⟨wqa, hwn⟩ : ∃ z, z = wq.alloc (.cells #[.int .i64 0, .int .i64 0] 39) := ⟨_, rfl⟩
              rw [← hwn]
              have h1 : wqa.heap[wq.heap.size]? = some (.cells #[.int .i64 0, .int .i64 0] 39 (0, 0)) := by rw [hwn]; exact heap_new _ _ _ rfl
              have lh1 : wY.heap.size ≤ wq.heap.size := hS.size
              have hS : Below wY.heap.size wY wqa := by rw [hwn]; exact hS.alloc hS.size _
              replace hwn := Lib.hid hwn
              refine ⟨by intros; exact hS, ?_⟩
              (try simp only [List.getElem_toArray, List.getElem_cons_zero, List.getElem_cons_succ, Act.put, List.setIfInBounds_toArray, List.set_cons_zero, List.set_cons_succ])
              refine wpTri_two rfl (by rfl) rfl (by rfl) ?_ ?_
              · (try simp only [List.getElem_toArray, List.getElem_cons_zero, List.getElem_cons_succ])
                go_simp
                go_at_call 19
                (with_reducible refine (d19i.out _ hS).mono ?_)
                rintro e2 wqac ⟨rfl, hbc⟩
                have hSq := hS
                have hS := hS.trans (hbc.mono hS.size)
                have h1 := (hbc.block _ (lt_block h1)).trans h1
                refine ⟨by intros; exact hS, ?_⟩
                (try simp only [List.getElem_toArray, List.getElem_cons_zero, List.getElem_cons_succ, Act.put, List.setIfInBounds_toArray, List.set_cons_zero, List.set_cons_succ])
                refine wpTri_pure (v := ?_) rfl (by rfl) ?_ (fun _ _ _ h => h) ?_
                rotate_left
                focus (intro w'; (try simp only [List.getElem_toArray, List.getElem_cons_zero, List.getElem_cons_succ]); go_simp; try with_reducible rfl)
                (try simp only [List.getElem_toArray, List.getElem_cons_zero, List.getElem_cons_succ, Act.put, List.setIfInBounds_toArray, List.set_cons_zero, List.set_cons_succ])
                refine wpTri_pure (v := ?_) rfl (by rfl) ?_ (fun _ _ _ h => h) ?_
                rotate_left
                focus (intro w'; (try simp only [List.getElem_toArray, List.getElem_cons_zero, List.getElem_cons_succ]); go_simp; try with_reducible rfl)
                (try simp only [List.getElem_toArray, List.getElem_cons_zero, List.getElem_cons_succ, Act.put, List.setIfInBounds_toArray, List.set_cons_zero, List.set_cons_succ])
                refine wpTri_pure (v := ?_) rfl (by rfl) ?_ (fun _ _ _ h => h) ?_
                rotate_left
                focus (intro w'; (try simp only [List.getElem_toArray, List.getElem_cons_zero, List.getElem_cons_succ]); go_simp; try with_reducible rfl)
                (try simp only [List.getElem_toArray, List.getElem_cons_zero, List.getElem_cons_succ, Act.put, List.setIfInBounds_toArray, List.set_cons_zero, List.set_cons_succ])
                refine wpTri_do rfl (by rfl) ?_
                (try simp only [List.getElem_toArray, List.getElem_cons_zero, List.getElem_cons_succ])
                go_simp
                obtain ⟨wqacb, hwn⟩ : ∃ z, z = wqac.alloc (.cells #[.int .i64 0, .int .i64 0] 39) := ⟨_, rfl⟩
                rw [← hwn]
                have h2 : wqacb.heap[wqac.heap.size]? = some (.cells #[.int .i64 0, .int .i64 0] 39 (0, 0)) := by rw [hwn]; exact heap_new _ _ _ rfl
                have lh2 : wY.heap.size ≤ wqac.heap.size := hS.size
                have ne : wq.heap.size ≠ wqac.heap.size := Nat.ne_of_lt (lt_block h1)
                have h1 : wqacb.heap[wq.heap.size]? = some (.cells #[.int .i64 0, .int .i64 0] 39 (0, 0)) := by rw [hwn]; exact heap_old _ _ _ _ h1
                have hS : Below wY.heap.size wY wqacb := by rw [hwn]; exact hS.alloc hS.size _
                replace hwn := Lib.hid hwn
                refine ⟨by intros; exact hS, ?_⟩
                (try simp only [List.getElem_toArray, List.getElem_cons_zero, List.getElem_cons_succ, Act.put, List.setIfInBounds_toArray, List.set_cons_zero, List.set_cons_succ])
                refine wpTri_do rfl (by rfl) ?_
                (try simp only [List.getElem_toArray, List.getElem_cons_zero, List.getElem_cons_succ])
                obtain ⟨y0, y1⟩ := cells2 h1
                have f0 := frozen_row h1 0
                have f1 := frozen_row h1 1
                go_simp
                clear y0 y1 f0 f1
                obtain ⟨wqacbx, hwn⟩ : ∃ z, z = (wqacb.setCell ⟨wq.heap.size, 0, none⟩ (.int .i64 (p).x)).setCell ⟨wq.heap.size, 1, none⟩ (.int .i64 (p).y) := ⟨_, rfl⟩
                rw [← hwn]
                have h2 := (((Below.heap_setCell (wqacb.setCell ⟨wq.heap.size, 0, none⟩ (.int .i64 (p).x)) ⟨wq.heap.size, 1, none⟩ (.int .i64 (p).y) _ ne.symm).trans (Below.heap_setCell wqacb ⟨wq.heap.size, 0, none⟩ (.int .i64 (p).x) _ ne.symm)).trans h2)
                have h1 : wqacbx.heap[wq.heap.size]? = some (.cells #[.int .i64 (p).x, .int .i64 (p).y] 39 (0, 0)) := by rw [hwn]; exact set_cells (set_cells h1 (o := 0) _) (o := 1) _
                rw [← hwn] at h2
                have hS : Below wY.heap.size wY wqacbx := by rw [hwn]; exact (hS.setCell (p := ⟨wq.heap.size, 0, none⟩) lh1 _).setCell (p := ⟨wq.heap.size, 1, none⟩) lh1 _
                replace hwn := Lib.hid hwn
                (try simp only [List.getElem_toArray, List.getElem_cons_zero, List.getElem_cons_succ, Act.put, List.setIfInBounds_toArray, List.set_cons_zero, List.set_cons_succ])
                refine wpTri_do rfl (by rfl) ?_
                (try simp only [List.getElem_toArray, List.getElem_cons_zero, List.getElem_cons_succ])
                obtain ⟨y0, y1⟩ := cells2 h2
                have f0 := frozen_row h2 0
                have f1 := frozen_row h2 1
                go_simp
                clear y0 y1 f0 f1
                obtain ⟨wqacbxy, hwn⟩ : ∃ z, z = (wqacbx.setCell ⟨wqac.heap.size, 0, none⟩ (.int .i64 (q).x)).setCell ⟨wqac.heap.size, 1, none⟩ (.int .i64 (q).y) := ⟨_, rfl⟩
                rw [← hwn]
                have h1 := (((Below.heap_setCell (wqacbx.setCell ⟨wqac.heap.size, 0, none⟩ (.int .i64 (q).x)) ⟨wqac.heap.size, 1, none⟩ (.int .i64 (q).y) _ ne).trans (Below.heap_setCell wqacbx ⟨wqac.heap.size, 0, none⟩ (.int .i64 (q).x) _ ne)).trans h1)
                have h2 : wqacbxy.heap[wqac.heap.size]? = some (.cells #[.int .i64 (q).x, .int .i64 (q).y] 39 (0, 0)) := by rw [hwn]; exact set_cells (set_cells h2 (o := 0) _) (o := 1) _
                rw [← hwn] at h1
                have hS : Below wY.heap.size wY wqacbxy := by rw [hwn]; exact (hS.setCell (p := ⟨wqac.heap.size, 0, none⟩) lh2 _).setCell (p := ⟨wqac.heap.size, 1, none⟩) lh2 _
                replace hwn := Lib.hid hwn
                (try simp only [List.getElem_toArray, List.getElem_cons_zero, List.getElem_cons_succ, Act.put, List.setIfInBounds_toArray, List.set_cons_zero, List.set_cons_succ])
                (try unfold wpTri)
                exact ⟨wq.heap.size, wqac.heap.size, lh1, lh2, hS, h1, h2, by rw [hA.out]; simp only [Act.put, List.setIfInBounds_toArray, List.set_cons_zero, List.set_cons_succ]⟩
              · (try simp only [List.getElem_toArray, List.getElem_cons_zero, List.getElem_cons_succ])
                go_simp
                obtain ⟨wqab, hwn⟩ : ∃ z, z = wqa.alloc (.cells #[.int .i64 0, .int .i64 0] 39) := ⟨_, rfl⟩
                rw [← hwn]
                have h2 : wqab.heap[wqa.heap.size]? = some (.cells #[.int .i64 0, .int .i64 0] 39 (0, 0)) := by rw [hwn]; exact heap_new _ _ _ rfl
                have lh2 : wY.heap.size ≤ wqa.heap.size := hS.size
                have ne : wq.heap.size ≠ wqa.heap.size := Nat.ne_of_lt (lt_block h1)
                have h1 : wqab.heap[wq.heap.size]? = some (.cells #[.int .i64 0, .int .i64 0] 39 (0, 0)) := by rw [hwn]; exact heap_old _ _ _ _ h1
                have hS : Below wY.heap.size wY wqab := by rw [hwn]; exact hS.alloc hS.size _
                replace hwn := Lib.hid hwn
                refine ⟨by intros; exact hS, ?_⟩
                (try simp only [List.getElem_toArray, List.getElem_cons_zero, List.getElem_cons_succ, Act.put, List.setIfInBounds_toArray, List.set_cons_zero, List.set_cons_succ])
                refine wpTri_do rfl (by rfl) ?_
                (try simp only [List.getElem_toArray, List.getElem_cons_zero, List.getElem_cons_succ])
                go_simp
                go_at_call 19
                (with_reducible refine (d19i.out _ hS).mono ?_)
                rintro e2 wqabc ⟨rfl, hbc⟩
                have hSq := hS
                have hS := hS.trans (hbc.mono hS.size)
                have h1 := (hbc.block _ (lt_block h1)).trans h1
                have h2 := (hbc.block _ (lt_block h2)).trans h2
                refine ⟨by intros; exact hS, ?_⟩
                (try simp only [List.getElem_toArray, List.getElem_cons_zero, List.getElem_cons_succ, Act.put, List.setIfInBounds_toArray, List.set_cons_zero, List.set_cons_succ])
                refine wpTri_pure (v := ?_) rfl (by rfl) ?_ (fun _ _ _ h => h) ?_
                rotate_left
                focus (intro w'; (try simp only [List.getElem_toArray, List.getElem_cons_zero, List.getElem_cons_succ]); go_simp; try with_reducible rfl)
                (try simp only [List.getElem_toArray, List.getElem_cons_zero, List.getElem_cons_succ, Act.put, List.setIfInBounds_toArray, List.set_cons_zero, List.set_cons_succ])
                refine wpTri_pure (v := ?_) rfl (by rfl) ?_ (fun _ _ _ h => h) ?_
                rotate_left
                focus (intro w'; (try simp only [List.getElem_toArray, List.getElem_cons_zero, List.getElem_cons_succ]); go_simp; try with_reducible rfl)
                (try simp only [List.getElem_toArray, List.getElem_cons_zero, List.getElem_cons_succ, Act.put, List.setIfInBounds_toArray, List.set_cons_zero, List.set_cons_succ])
                refine wpTri_pure (v := ?_) rfl (by rfl) ?_ (fun _ _ _ h => h) ?_
                rotate_left
                focus (intro w'; (try simp only [List.getElem_toArray, List.getElem_cons_zero, List.getElem_cons_succ]); go_simp; try with_reducible rfl)
                (try simp only [List.getElem_toArray, List.getElem_cons_zero, List.getElem_cons_succ, Act.put, List.setIfInBounds_toArray, List.set_cons_zero, List.set_cons_succ])
                refine wpTri_do rfl (by rfl) ?_
                (try simp only [List.getElem_toArray, List.getElem_cons_zero, List.getElem_cons_succ])
                obtain ⟨y0, y1⟩ := cells2 h1
                have f0 := frozen_row h1 0
                have f1 := frozen_row h1 1
                go_simp
                clear y0 y1 f0 f1
                obtain ⟨wqabcx, hwn⟩ : ∃ z, z = (wqabc.setCell ⟨wq.heap.size, 0, none⟩ (.int .i64 (p).x)).setCell ⟨wq.heap.size, 1, none⟩ (.int .i64 (p).y) := ⟨_, rfl⟩
                rw [← hwn]
                have h2 := (((Below.heap_setCell (wqabc.setCell ⟨wq.heap.size, 0, none⟩ (.int .i64 (p).x)) ⟨wq.heap.size, 1, none⟩ (.int .i64 (p).y) _ ne.symm).trans (Below.heap_setCell wqabc ⟨wq.heap.size, 0, none⟩ (.int .i64 (p).x) _ ne.symm)).trans h2)
                have h1 : wqabcx.heap[wq.heap.size]? = some (.cells #[.int .i64 (p).x, .int .i64 (p).y] 39 (0, 0)) := by rw [hwn]; exact set_cells (set_cells h1 (o := 0) _) (o := 1) _
                rw [← hwn] at h2
                have hS : Below wY.heap.size wY wqabcx := by rw [hwn]; exact (hS.setCell (p := ⟨wq.heap.size, 0, none⟩) lh1 _).setCell (p := ⟨wq.heap.size, 1, none⟩) lh1 _
                replace hwn := Lib.hid hwn
                (try simp only [List.getElem_toArray, List.getElem_cons_zero, List.getElem_cons_succ, Act.put, List.setIfInBounds_toArray, List.set_cons_zero, List.set_cons_succ])
                refine wpTri_do rfl (by rfl) ?_
                (try simp only [List.getElem_toArray, List.getElem_cons_zero, List.getElem_cons_succ])
                obtain ⟨y0, y1⟩ := cells2 h2
                have f0 := frozen_row h2 0
                have f1 := frozen_row h2 1
                go_simp
                clear y0 y1 f0 f1
                obtain ⟨wqabcxy, hwn⟩ : ∃ z, z = (wqabcx.setCell ⟨wqa.heap.size, 0, none⟩ (.int .i64 (q).x)).setCell ⟨wqa.heap.size, 1, none⟩ (.int .i64 (q).y) := ⟨_, rfl⟩
                rw [← hwn]
                have h1 := (((Below.heap_setCell (wqabcx.setCell ⟨wqa.heap.size, 0, none⟩ (.int .i64 (q).x)) ⟨wqa.heap.size, 1, none⟩ (.int .i64 (q).y) _ ne).trans (Below.heap_setCell wqabcx ⟨wqa.heap.size, 0, none⟩ (.int .i64 (q).x) _ ne)).trans h1)
                have h2 : wqabcxy.heap[wqa.heap.size]? = some (.cells #[.int .i64 (q).x, .int .i64 (q).y] 39 (0, 0)) := by rw [hwn]; exact set_cells (set_cells h2 (o := 0) _) (o := 1) _
                rw [← hwn] at h1
                have hS : Below wY.heap.size wY wqabcxy := by rw [hwn]; exact (hS.setCell (p := ⟨wqa.heap.size, 0, none⟩) lh2 _).setCell (p := ⟨wqa.heap.size, 1, none⟩) lh2 _
                replace hwn := Lib.hid hwn
                (try simp only [List.getElem_toArray, List.getElem_cons_zero, List.getElem_cons_succ, Act.put, List.setIfInBounds_toArray, List.set_cons_zero, List.set_cons_succ])
                (try unfold wpTri)
                exact ⟨wq.heap.size, wqa.heap.size, lh1, lh2, hS, h1, h2, by rw [hA.out]; simp only [Act.put, List.setIfInBounds_toArray, List.set_cons_zero, List.set_cons_succ]⟩
            · (try simp only [List.getElem_toArray, List.getElem_cons_zero, List.getElem_cons_succ])
              go_simp
              obtain ⟨wqb, hwn⟩ : ∃ z, z = wq.alloc (.cells #[.int .i64 0, .int .i64 0] 39) := ⟨_, rfl⟩
              rw [← hwn]
              have h2 : wqb.heap[wq.heap.size]? = some (.cells #[.int .i64 0, .int .i64 0] 39 (0, 0)) := by rw [hwn]; exact heap_new _ _ _ rfl
              have lh2 : wY.heap.size ≤ wq.heap.size := hS.size
              have hS : Below wY.heap.size wY wqb := by rw [hwn]; exact hS.alloc hS.size _
              replace hwn := Lib.hid hwn
              refine ⟨by intros; exact hS, ?_⟩
              (try simp only [List.getElem_toArray, List.getElem_cons_zero, List.getElem_cons_succ, Act.put, List.setIfInBounds_toArray, List.set_cons_zero, List.set_cons_succ])
              refine wpTri_two rfl (by rfl) rfl (by rfl) ?_ ?_
              · (try simp only [List.getElem_toArray, List.getElem_cons_zero, List.getElem_cons_succ])
                go_simp
                go_at_call 19
                (with_reducible refine (d19i.out _ hS).mono ?_)
                rintro e2 wqbc ⟨rfl, hbc⟩
                have hSq := hS
                have hS := hS.trans (hbc.mono hS.size)
                have h2 := (hbc.block _ (lt_block h2)).trans h2
                refine ⟨by intros; exact hS, ?_⟩
                (try simp only [List.getElem_toArray, List.getElem_cons_zero, List.getElem_cons_succ, Act.put, List.setIfInBounds_toArray, List.set_cons_zero, List.set_cons_succ])
                refine wpTri_pure (v := ?_) rfl (by rfl) ?_ (fun _ _ _ h => h) ?_
                rotate_left
                focus (intro w'; (try simp only [List.getElem_toArray, List.getElem_cons_zero, List.getElem_cons_succ]); go_simp; try with_reducible rfl)
                (try simp only [List.getElem_toArray, List.getElem_cons_zero, List.getElem_cons_succ, Act.put, List.setIfInBounds_toArray, List.set_cons_zero, List.set_cons_succ])
                refine wpTri_pure (v := ?_) rfl (by rfl) ?_ (fun _ _ _ h => h) ?_
                rotate_left
                focus (intro w'; (try simp only [List.getElem_toArray, List.getElem_cons_zero, List.getElem_cons_succ]); go_simp; try with_reducible rfl)
                (try simp only [List.getElem_toArray, List.getElem_cons_zero, List.getElem_cons_succ, Act.put, List.setIfInBounds_toArray, List.set_cons_zero, List.set_cons_succ])
                refine wpTri_pure (v := ?_) rfl (by rfl) ?_ (fun _ _ _ h => h) ?_
                rotate_left
                focus (intro w'; (try simp only [List.getElem_toArray, List.getElem_cons_zero, List.getElem_cons_succ]); go_simp; try with_reducible rfl)
                (try simp only [List.getElem_toArray, List.getElem_cons_zero, List.getElem_cons_succ, Act.put, List.setIfInBounds_toArray, List.set_cons_zero, List.set_cons_succ])
                refine wpTri_do rfl (by rfl) ?_
                (try simp only [List.getElem_toArray, List.getElem_cons_zero, List.getElem_cons_succ])
                go_simp
                obtain ⟨wqbca, hwn⟩ : ∃ z, z = wqbc.alloc (.cells #[.int .i64 0, .int .i64 0] 39) := ⟨_, rfl⟩
                rw [← hwn]
                have h1 : wqbca.heap[wqbc.heap.size]? = some (.cells #[.int .i64 0, .int .i64 0] 39 (0, 0)) := by rw [hwn]; exact heap_new _ _ _ rfl
                have lh1 : wY.heap.size ≤ wqbc.heap.size := hS.size
                have ne : wq.heap.size ≠ wqbc.heap.size := Nat.ne_of_lt (lt_block h2)
                have h2 : wqbca.heap[wq.heap.size]? = some (.cells #[.int .i64 0, .int .i64 0] 39 (0, 0)) := by rw [hwn]; exact heap_old _ _ _ _ h2
                have hS : Below wY.heap.size wY wqbca := by rw [hwn]; exact hS.alloc hS.size _
                replace hwn := Lib.hid hwn
                refine ⟨by intros; exact hS, ?_⟩
                (try simp only [List.getElem_toArray, List.getElem_cons_zero, List.getElem_cons_succ, Act.put, List.setIfInBounds_toArray, List.set_cons_zero, List.set_cons_succ])
                refine wpTri_do rfl (by rfl) ?_
                (try simp only [List.getElem_toArray, List.getElem_cons_zero, List.getElem_cons_succ])
                obtain ⟨y0, y1⟩ := cells2 h1
                have f0 := frozen_row h1 0
                have f1 := frozen_row h1 1
                go_simp
                clear y0 y1 f0 f1
                obtain ⟨wqbcax, hwn⟩ : ∃ z, z = (wqbca.setCell ⟨wqbc.heap.size, 0, none⟩ (.int .i64 (p).x)).setCell ⟨wqbc.heap.size, 1, none⟩ (.int .i64 (p).y) := ⟨_, rfl⟩
                rw [← hwn]
                have h2 := (((Below.heap_setCell (wqbca.setCell ⟨wqbc.heap.size, 0, none⟩ (.int .i64 (p).x)) ⟨wqbc.heap.size, 1, none⟩ (.int .i64 (p).y) _ ne).trans (Below.heap_setCell wqbca ⟨wqbc.heap.size, 0, none⟩ (.int .i64 (p).x) _ ne)).trans h2)
                have h1 : wqbcax.heap[wqbc.heap.size]? = some (.cells #[.int .i64 (p).x, .int .i64 (p).y] 39 (0, 0)) := by rw [hwn]; exact set_cells (set_cells h1 (o := 0) _) (o := 1) _
                rw [← hwn] at h2
                have hS : Below wY.heap.size wY wqbcax := by rw [hwn]; exact (hS.setCell (p := ⟨wqbc.heap.size, 0, none⟩) lh1 _).setCell (p := ⟨wqbc.heap.size, 1, none⟩) lh1 _
                replace hwn := Lib.hid hwn
                (try simp only [List.getElem_toArray, List.getElem_cons_zero, List.getElem_cons_succ, Act.put, List.setIfInBounds_toArray, List.set_cons_zero, List.set_cons_succ])
                refine wpTri_do rfl (by rfl) ?_
                (try simp only [List.getElem_toArray, List.getElem_cons_zero, List.getElem_cons_succ])
                obtain ⟨y0, y1⟩ := cells2 h2
                have f0 := frozen_row h2 0
                have f1 := frozen_row h2 1
                go_simp
                clear y0 y1 f0 f1
                obtain ⟨wqbcaxy, hwn⟩ : ∃ z, z = (wqbcax.setCell ⟨wq.heap.size, 0, none⟩ (.int .i64 (q).x)).setCell ⟨wq.heap.size, 1, none⟩ (.int .i64 (q).y) := ⟨_, rfl⟩
                rw [← hwn]
                have h1 := (((Below.heap_setCell (wqbcax.setCell ⟨wq.heap.size, 0, none⟩ (.int .i64 (q).x)) ⟨wq.heap.size, 1, none⟩ (.int .i64 (q).y) _ ne.symm).trans (Below.heap_setCell wqbcax ⟨wq.heap.size, 0, none⟩ (.int .i64 (q).x) _ ne.symm)).trans h1)
                have h2 : wqbcaxy.heap[wq.heap.size]? = some (.cells #[.int .i64 (q).x, .int .i64 (q).y] 39 (0, 0)) := by rw [hwn]; exact set_cells (set_cells h2 (o := 0) _) (o := 1) _
                rw [← hwn] at h1
                have hS : Below wY.heap.size wY wqbcaxy := by rw [hwn]; exact (hS.setCell (p := ⟨wq.heap.size, 0, none⟩) lh2 _).setCell (p := ⟨wq.heap.size, 1, none⟩) lh2 _
                replace hwn := Lib.hid hwn
                (try simp only [List.getElem_toArray, List.getElem_cons_zero, List.getElem_cons_succ, Act.put, List.setIfInBounds_toArray, List.set_cons_zero, List.set_cons_succ])
                (try unfold wpTri)
                exact ⟨wqbc.heap.size, wq.heap.size, lh1, lh2, hS, h1, h2, by rw [hA.out]; simp only [Act.put, List.setIfInBounds_toArray, List.set_cons_zero, List.set_cons_succ]⟩
              · (try simp only [List.getElem_toArray, List.getElem_cons_zero, List.getElem_cons_succ])
                go_simp
                obtain ⟨wqba, hwn⟩ : ∃ z, z = wqb.alloc (.cells #[.int .i64 0, .int .i64 0] 39) := ⟨_, rfl⟩
                rw [← hwn]
                have h1 : wqba.heap[wqb.heap.size]? = some (.cells #[.int .i64 0, .int .i64 0] 39 (0, 0)) := by rw [hwn]; exact heap_new _ _ _ rfl
                have lh1 : wY.heap.size ≤ wqb.heap.size := hS.size
                have ne : wq.heap.size ≠ wqb.heap.size := Nat.ne_of_lt (lt_block h2)
                have h2 : wqba.heap[wq.heap.size]? = some (.cells #[.int .i64 0, .int .i64 0] 39 (0, 0)) := by rw [hwn]; exact heap_old _ _ _ _ h2
                have hS : Below wY.heap.size wY wqba := by rw [hwn]; exact hS.alloc hS.size _
                replace hwn := Lib.hid hwn
                refine ⟨by intros; exact hS, ?_⟩
                (try simp only [List.getElem_toArray, List.getElem_cons_zero, List.getElem_cons_succ, Act.put, List.setIfInBounds_toArray, List.set_cons_zero, List.set_cons_succ])
                refine wpTri_do rfl (by rfl) ?_
                (try simp only [List.getElem_toArray, List.getElem_cons_zero, List.getElem_cons_succ])
                go_simp
                go_at_call 19
                (with_reducible refine (d19i.out _ hS).mono ?_)
                rintro e2 wqbac ⟨rfl, hbc⟩
                have hSq := hS
                have hS := hS.trans (hbc.mono hS.size)
                have h1 := (hbc.block _ (lt_block h1)).trans h1
                have h2 := (hbc.block _ (lt_block h2)).trans h2
                refine ⟨by intros; exact hS, ?_⟩
                (try simp only [List.getElem_toArray, List.getElem_cons_zero, List.getElem_cons_succ, Act.put, List.setIfInBounds_toArray, List.set_cons_zero, List.set_cons_succ])
                refine wpTri_pure (v := ?_) rfl (by rfl) ?_ (fun _ _ _ h => h) ?_
                rotate_left
                focus (intro w'; (try simp only [List.getElem_toArray, List.getElem_cons_zero, List.getElem_cons_succ]); go_simp; try with_reducible rfl)
                (try simp only [List.getElem_toArray, List.getElem_cons_zero, List.getElem_cons_succ, Act.put, List.setIfInBounds_toArray, List.set_cons_zero, List.set_cons_succ])
                refine wpTri_pure (v := ?_) rfl (by rfl) ?_ (fun _ _ _ h => h) ?_
                rotate_left
                focus (intro w'; (try simp only [List.getElem_toArray, List.getElem_cons_zero, List.getElem_cons_succ]); go_simp; try with_reducible rfl)
                (try simp only [List.getElem_toArray, List.getElem_cons_zero, List.getElem_cons_succ, Act.put, List.setIfInBounds_toArray, List.set_cons_zero, List.set_cons_succ])
                refine wpTri_pure (v := ?_) rfl (by rfl) ?_ (fun _ _ _ h => h) ?_
                rotate_left
                focus (intro w'; (try simp only [List.getElem_toArray, List.getElem_cons_zero, List.getElem_cons_succ]); go_simp; try with_reducible rfl)
                (try simp only [List.getElem_toArray, List.getElem_cons_zero, List.getElem_cons_succ, Act.put, List.setIfInBounds_toArray, List.set_cons_zero, List.set_cons_succ])
                refine wpTri_do rfl (by rfl) ?_
                (try simp only [List.getElem_toArray, List.getElem_cons_zero, List.getElem_cons_succ])
                obtain ⟨y0, y1⟩ := cells2 h1
                have f0 := frozen_row h1 0
                have f1 := frozen_row h1 1
                go_simp
                clear y0 y1 f0 f1
                obtain ⟨wqbacx, hwn⟩ : ∃ z, z = (wqbac.setCell ⟨wqb.heap.size, 0, none⟩ (.int .i64 (p).x)).setCell ⟨wqb.heap.size, 1, none⟩ (.int .i64 (p).y) := ⟨_, rfl⟩
                rw [← hwn]
                have h2 := (((Below.heap_setCell (wqbac.setCell ⟨wqb.heap.size, 0, none⟩ (.int .i64 (p).x)) ⟨wqb.heap.size, 1, none⟩ (.int .i64 (p).y) _ ne).trans (Below.heap_setCell wqbac ⟨wqb.heap.size, 0, none⟩ (.int .i64 (p).x) _ ne)).trans h2)
                have h1 : wqbacx.heap[wqb.heap.size]? = some (.cells #[.int .i64 (p).x, .int .i64 (p).y] 39 (0, 0)) := by rw [hwn]; exact set_cells (set_cells h1 (o := 0) _) (o := 1) _
                rw [← hwn] at h2
                have hS : Below wY.heap.size wY wqbacx := by rw [hwn]; exact (hS.setCell (p := ⟨wqb.heap.size, 0, none⟩) lh1 _).setCell (p := ⟨wqb.heap.size, 1, none⟩) lh1 _
                replace hwn := Lib.hid hwn
                (try simp only [List.getElem_toArray, List.getElem_cons_zero, List.getElem_cons_succ, Act.put, List.setIfInBounds_toArray, List.set_cons_zero, List.set_cons_succ])
                refine wpTri_do rfl (by rfl) ?_
                (try simp only [List.getElem_toArray, List.getElem_cons_zero, List.getElem_cons_succ])
                obtain ⟨y0, y1⟩ := cells2 h2
                have f0 := frozen_row h2 0
                have f1 := frozen_row h2 1
                go_simp
                clear y0 y1 f0 f1
                obtain ⟨wqbacxy, hwn⟩ : ∃ z, z = (wqbacx.setCell ⟨wq.heap.size, 0, none⟩ (.int .i64 (q).x)).setCell ⟨wq.heap.size, 1, none⟩ (.int .i64 (q).y) := ⟨_, rfl⟩
                rw [← hwn]
                have h1 := (((Below.heap_setCell (wqbacx.setCell ⟨wq.heap.size, 0, none⟩ (.int .i64 (q).x)) ⟨wq.heap.size, 1, none⟩ (.int .i64 (q).y) _ ne.symm).trans (Below.heap_setCell wqbacx ⟨wq.heap.size, 0, none⟩ (.int .i64 (q).x) _ ne.symm)).trans h1)
                have h2 : wqbacxy.heap[wq.heap.size]? = some (.cells #[.int .i64 (q).x, .int .i64 (q).y] 39 (0, 0)) := by rw [hwn]; exact set_cells (set_cells h2 (o := 0) _) (o := 1) _
                rw [← hwn] at h1
                have hS : Below wY.heap.size wY wqbacxy := by rw [hwn]; exact (hS.setCell (p := ⟨wq.heap.size, 0, none⟩) lh2 _).setCell (p := ⟨wq.heap.size, 1, none⟩) lh2 _
                replace hwn := Lib.hid hwn
                (try simp only [List.getElem_toArray, List.getElem_cons_zero, List.getElem_cons_succ, Act.put, List.setIfInBounds_toArray, List.set_cons_zero, List.set_cons_succ])
                (try unfold wpTri)
                exact ⟨wqb.heap.size, wq.heap.size, lh1, lh2, hS, h1, h2, by rw [hA.out]; simp only [Act.put, List.setIfInBounds_toArray, List.set_cons_zero, List.set_cons_succ]⟩
          rintro ⟨b10, b11, hb10, hb11, hw8, h10, h11, rfl⟩
          rw [hA.out]
          clear hA
          simp only [Act.put, List.setIfInBounds_toArray, List.set_cons_zero, List.set_cons_succ]
          have hX8 := Lib.hid (hXY.out.later hw8)
          have hx8 : Hid _ := (hw8.block _ (lt_block hxY.out)).trans hxY.out
          have hy8 : Hid _ := (hw8.block _ (lt_block hyY.out)).trans hyY.out
          have hcl2 : Hid (∀ V, Below w8.heap.size w8 V → _) := fun V hb => hcl.out V (hX8.out.b.trans (hb.mono hX8.out.b.size)) (hX8.out.later hb) ((hb.block _ (lt_block hx8.out)).trans hx8.out) ((hb.block _ (lt_block hy8.out)).trans hy8.out)
          have d19j : Hid (∀ V, Below w8.heap.size w8 V → Calls Tryd.prog 19 #[faceVal fj, .int .i64 (m0 : Int)] V fun e w' => e = .returned (.tuple #[pntVal q, pntVal p]) ∧ Below V.heap.size V w') := fun V hb => c19j.out V (hX8.out.b.trans (hb.mono hX8.out.b.size))
          dsimp only [faceVal] at d19j
          go_upto_region 18 with fail
          refine wp_name fun A hA => ?_
          refine Code.wp_mono (Q := AtEnd fun a' w' => EndsPost w8 (q) (p) (fun b1 b2 => ((((((((((((((A.put (some 12) (.pointer (some ⟨b1, 0, none⟩))).put (some 13) (.pointer (some ⟨b2, 0, none⟩))).put (some 122) (.tuple #[pntVal q, pntVal p])).put (some 123) (.pointer (some ⟨w.heap.size, 0, none⟩))).put (some 124) (.slice (some adf) fs.length fc)).put (some 125) (.pointer (some ⟨w4.heap.size, 0, none⟩))).put (some 126) (.int .i64 (j0 : Int))).put (some 127) (.pointer (some (adf.add (j0 * 7))))).put (some 128) (.agg (fCells fj))).put (some 129) (.pointer (some ⟨w4.heap.size, 1, none⟩))).put (some 130) (.int .i64 (m0 : Int))).put (some 131) (.tuple #[pntVal q, pntVal p])).put (some 132) (pntVal q)).put (some 133) (pntVal p))) a' w') (AtEnd.elim fun a' w9 => ?_) ?_
          rotate_left
          · obtain ⟨wq, hwq⟩ : ∃ z, z = w8.drew := ⟨_, rfl⟩
            have hS : Below w8.heap.size w8 wq := by rw [hwq]; exact (Below.refl _ _).drew
            refine wp_region_tri (fun V' => Below w8.heap.size w8 V') (.pure 0 (.read 1 (.pure 2 (.read 3 (.pure 4 (.read 5 (.pure 6 (.read 7 (.three 8 (.pure 9 (.pure 10 (.pure 11 (.two 12 (.one 13 (.one 14 (.one 15 .done))) 13 (.one 12 (.one 14 (.one 15 .done))))))) 12 (.two 8 (.pure 9 (.pure 10 (.pure 11 (.one 13 (.one 14 (.one 15 .done)))))) 13 (.one 8 (.pure 9 (.pure 10 (.pure 11 (.one 14 (.one 15 .done))))))) 13 (.two 8 (.pure 9 (.pure 10 (.pure 11 (.one 12 (.one 14 (.one 15 .done)))))) 12 (.one 8 (.pure 9 (.pure 10 (.pure 11 (.one 14 (.one 15 .done)))))))))))))))) [14, 15] (by kernel_rfl) (by kernel_rfl) (by rw [← hwq]; exact hS) ?_
            rw [← hwq]
            replace hwq := Lib.hid hwq
            refine wpTri_pure (v := ?_) rfl (by rfl) ?_ (fun _ _ _ h => h) ?_
            rotate_left
            focus (intro w'; (try simp only [List.getElem_toArray, List.getElem_cons_zero, List.getElem_cons_succ]); go_simp; try with_reducible rfl)
            (try simp only [List.getElem_toArray, List.getElem_cons_zero, List.getElem_cons_succ, Act.put, List.setIfInBounds_toArray, List.set_cons_zero, List.set_cons_succ])
            refine wpTri_take (v := ?_) rfl (by rfl) ?_ (fun _ _ _ h => h) ?_
            rotate_left
            focus (intro w' hSw; obtain ⟨⟨x0, x1⟩, ⟨z0, z1, z2, z3, z4⟩, ⟨y0, y1, y2, y3, y4⟩, ⟨p0, p1, p2, p3, p4, p5, p6⟩, ⟨s0, s1, s2, s3, s4, s5, s6⟩⟩ := hcl2.out _ hSw; clear hSw; (try simp only [List.getElem_toArray, List.getElem_cons_zero, List.getElem_cons_succ]); go_simp; try with_reducible rfl)
            (try simp only [List.getElem_toArray, List.getElem_cons_zero, List.getElem_cons_succ, Act.put, List.setIfInBounds_toArray, List.set_cons_zero, List.set_cons_succ])
            refine wpTri_pure (v := ?_) rfl (by rfl) ?_ (fun _ _ _ h => h) ?_
            rotate_left
            focus (intro w'; (try simp only [List.getElem_toArray, List.getElem_cons_zero, List.getElem_cons_succ]); go_simp; try with_reducible rfl)
            (try simp only [List.getElem_toArray, List.getElem_cons_zero, List.getElem_cons_succ, Act.put, List.setIfInBounds_toArray, List.set_cons_zero, List.set_cons_succ])
            refine wpTri_take (v := ?_) rfl (by rfl) ?_ (fun _ _ _ h => h) ?_
            rotate_left
            focus (intro w' hSw; obtain ⟨⟨x0, x1⟩, ⟨z0, z1, z2, z3, z4⟩, ⟨y0, y1, y2, y3, y4⟩, ⟨p0, p1, p2, p3, p4, p5, p6⟩, ⟨s0, s1, s2, s3, s4, s5, s6⟩⟩ := hcl2.out _ hSw; clear hSw; (try simp only [List.getElem_toArray, List.getElem_cons_zero, List.getElem_cons_succ]); go_simp; try with_reducible rfl)
            (try simp only [List.getElem_toArray, List.getElem_cons_zero, List.getElem_cons_succ, Act.put, List.setIfInBounds_toArray, List.set_cons_zero, List.set_cons_succ])
            refine wpTri_pure (v := ?_) rfl (by rfl) ?_ (fun _ _ _ h => h) ?_
            rotate_left
            focus (intro w'; (try simp only [List.getElem_toArray, List.getElem_cons_zero, List.getElem_cons_succ]); go_simp; try with_reducible rfl)
            (try simp only [List.getElem_toArray, List.getElem_cons_zero, List.getElem_cons_succ, Act.put, List.setIfInBounds_toArray, List.set_cons_zero, List.set_cons_succ])
            refine wpTri_take (v := ?_) rfl (by rfl) ?_ (fun _ _ _ h => h) ?_
            rotate_left
            focus (intro w' hSw; obtain ⟨⟨x0, x1⟩, ⟨z0, z1, z2, z3, z4⟩, ⟨y0, y1, y2, y3, y4⟩, ⟨p0, p1, p2, p3, p4, p5, p6⟩, ⟨s0, s1, s2, s3, s4, s5, s6⟩⟩ := hcl2.out _ hSw; clear hSw; (try simp only [List.getElem_toArray, List.getElem_cons_zero, List.getElem_cons_succ]); go_simp; try with_reducible rfl)
            (try simp only [List.getElem_toArray, List.getElem_cons_zero, List.getElem_cons_succ, Act.put, List.setIfInBounds_toArray, List.set_cons_zero, List.set_cons_succ])
            refine wpTri_pure (v := ?_) rfl (by rfl) ?_ (fun _ _ _ h => h) ?_
            rotate_left
            focus (intro w'; (try simp only [List.getElem_toArray, List.getElem_cons_zero, List.getElem_cons_succ]); go_simp; try with_reducible rfl)
            (try simp only [List.getElem_toArray, List.getElem_cons_zero, List.getElem_cons_succ, Act.put, List.setIfInBounds_toArray, List.set_cons_zero, List.set_cons_succ])
            refine wpTri_take (v := ?_) rfl (by rfl) ?_ (fun _ _ _ h => h) ?_
            rotate_left
            focus (intro w' hSw; obtain ⟨⟨x0, x1⟩, ⟨z0, z1, z2, z3, z4⟩, ⟨y0, y1, y2, y3, y4⟩, ⟨p0, p1, p2, p3, p4, p5, p6⟩, ⟨s0, s1, s2, s3, s4, s5, s6⟩⟩ := hcl2.out _ hSw; clear hSw; (try simp only [List.getElem_toArray, List.getElem_cons_zero, List.getElem_cons_succ]); go_simp; try with_reducible rfl)
            (try simp only [List.getElem_toArray, List.getElem_cons_zero, List.getElem_cons_succ, Act.put, List.setIfInBounds_toArray, List.set_cons_zero, List.set_cons_succ])
            refine wpTri_three rfl (by rfl) rfl (by rfl) rfl (by rfl) ?_ ?_ ?_
            · (try simp only [List.getElem_toArray, List.getElem_cons_zero, List.getElem_cons_succ])
              go_simp
              go_at_call 19
              (with_reducible refine (d19j.out _ hS).mono ?_)
              rintro e2 wqc ⟨rfl, hbc⟩
              have hSq := hS
              have hS := hS.trans (hbc.mono hS.size)
              refine ⟨by intros; exact hS, ?_⟩
              (try simp only [List.getElem_toArray, List.getElem_cons_zero, List.getElem_cons_succ, Act.put, List.setIfInBounds_toArray, List.set_cons_zero, List.set_cons_succ])
              refine wpTri_pure (v := ?_) rfl (by rfl) ?_ (fun _ _ _ h => h) ?_
              rotate_left
              focus (intro w'; (try simp only [List.getElem_toArray, List.getElem_cons_zero, List.getElem_cons_succ]); go_simp; try with_reducible rfl)
              (try simp only [List.getElem_toArray, List.getElem_cons_zero, List.getElem_cons_succ, Act.put, List.setIfInBounds_toArray, List.set_cons_zero, List.set_cons_succ])
              refine wpTri_pure (v := ?_) rfl (by rfl) ?_ (fun _ _ _ h => h) ?_
              rotate_left
              focus (intro w'; (try simp only [List.getElem_toArray, List.getElem_cons_zero, List.getElem_cons_succ]); go_simp; try with_reducible rfl)
              (try simp only [List.getElem_toArray, List.getElem_cons_zero, List.getElem_cons_succ, Act.put, List.setIfInBounds_toArray, List.set_cons_zero, List.set_cons_succ])
              refine wpTri_pure (v := ?_) rfl (by rfl) ?_ (fun _ _ _ h => h) ?_
              rotate_left
              focus (intro w'; (try simp only [List.getElem_toArray, List.getElem_cons_zero, List.getElem_cons_succ]); go_simp; try with_reducible rfl)
              (try simp only [List.getElem_toArray, List.getElem_cons_zero, List.getElem_cons_succ, Act.put, List.setIfInBounds_toArray, List.set_cons_zero, List.set_cons_succ])
              refine wpTri_two rfl (by rfl) rfl (by rfl) ?_ ?_
              · (try simp only [List.getElem_toArray, List.getElem_cons_zero, List.getElem_cons_succ])
                go_simp
                obtain ⟨wqca, hwn⟩ : ∃ z, z = wqc.alloc (.cells #[.int .i64 0, .int .i64 0] 39) := ⟨_, rfl⟩
                rw [← hwn]
                have h1 : wqca.heap[wqc.heap.size]? = some (.cells #[.int .i64 0, .int .i64 0] 39 (0, 0)) := by rw [hwn]; exact heap_new _ _ _ rfl
                have lh1 : w8.heap.size ≤ wqc.heap.size := hS.size
                have hS : Below w8.heap.size w8 wqca := by rw [hwn]; exact hS.alloc hS.size _
                replace hwn := Lib.hid hwn
                refine ⟨by intros; exact hS, ?_⟩
                (try simp only [List.getElem_toArray, List.getElem_cons_zero, List.getElem_cons_succ, Act.put, List.setIfInBounds_toArray, List.set_cons_zero, List.set_cons_succ])
                refine wpTri_do rfl (by rfl) ?_
                (try simp only [List.getElem_toArray, List.getElem_cons_zero, List.getElem_cons_succ])
                go_simp
                obtain ⟨wqcab, hwn⟩ : ∃ z, z = wqca.alloc (.cells #[.int .i64 0, .int .i64 0] 39) := ⟨_, rfl⟩
                rw [← hwn]
                have h2 : wqcab.heap[wqca.heap.size]? = some (.cells #[.int .i64 0, .int .i64 0] 39 (0, 0)) := by rw [hwn]; exact heap_new _ _ _ rfl
                have lh2 : w8.heap.size ≤ wqca.heap.size := hS.size
                have ne : wqc.heap.size ≠ wqca.heap.size := Nat.ne_of_lt (lt_block h1)
                have h1 : wqcab.heap[wqc.heap.size]? = some (.cells #[.int .i64 0, .int .i64 0] 39 (0, 0)) := by rw [hwn]; exact heap_old _ _ _ _ h1
                have hS : Below w8.heap.size w8 wqcab := by rw [hwn]; exact hS.alloc hS.size _
                replace hwn := Lib.hid hwn
                refine ⟨by intros; exact hS, ?_⟩
                (try simp only [List.getElem_toArray, List.getElem_cons_zero, List.getElem_cons_succ, Act.put, List.setIfInBounds_toArray, List.set_cons_zero, List.set_cons_succ])
                refine wpTri_do rfl (by rfl) ?_
                (try simp only [List.getElem_toArray, List.getElem_cons_zero, List.getElem_cons_succ])
                obtain ⟨y0, y1⟩ := cells2 h1
                have f0 := frozen_row h1 0
                have f1 := frozen_row h1 1
                go_simp
                clear y0 y1 f0 f1
                obtain ⟨wqcabx, hwn⟩ : ∃ z, z = (wqcab.setCell ⟨wqc.heap.size, 0, none⟩ (.int .i64 (q).x)).setCell ⟨wqc.heap.size, 1, none⟩ (.int .i64 (q).y) := ⟨_, rfl⟩
                rw [← hwn]
                have h2 := (((Below.heap_setCell (wqcab.setCell ⟨wqc.heap.size, 0, none⟩ (.int .i64 (q).x)) ⟨wqc.heap.size, 1, none⟩ (.int .i64 (q).y) _ ne.symm).trans (Below.heap_setCell wqcab ⟨wqc.heap.size, 0, none⟩ (.int .i64 (q).x) _ ne.symm)).trans h2)
                have h1 : wqcabx.heap[wqc.heap.size]? = some (.cells #[.int .i64 (q).x, .int .i64 (q).y] 39 (0, 0)) := by rw [hwn]; exact set_cells (set_cells h1 (o := 0) _) (o := 1) _
                rw [← hwn] at h2
                have hS : Below w8.heap.size w8 wqcabx := by rw [hwn]; exact (hS.setCell (p := ⟨wqc.heap.size, 0, none⟩) lh1 _).setCell (p := ⟨wqc.heap.size, 1, none⟩) lh1 _
                replace hwn := Lib.hid hwn
                (try simp only [List.getElem_toArray, List.getElem_cons_zero, List.getElem_cons_succ, Act.put, List.setIfInBounds_toArray, List.set_cons_zero, List.set_cons_succ])
                refine wpTri_do rfl (by rfl) ?_
                (try simp only [List.getElem_toArray, List.getElem_cons_zero, List.getElem_cons_succ])
                obtain ⟨y0, y1⟩ := cells2 h2
                have f0 := frozen_row h2 0
                have f1 := frozen_row h2 1
                go_simp
                clear y0 y1 f0 f1
                obtain ⟨wqcabxy, hwn⟩ : ∃ z, z = (wqcabx.setCell ⟨wqca.heap.size, 0, none⟩ (.int .i64 (p).x)).setCell ⟨wqca.heap.size, 1, none⟩ (.int .i64 (p).y) := ⟨_, rfl⟩
                rw [← hwn]
                have h1 := (((Below.heap_setCell (wqcabx.setCell ⟨wqca.heap.size, 0, none⟩ (.int .i64 (p).x)) ⟨wqca.heap.size, 1, none⟩ (.int .i64 (p).y) _ ne).trans (Below.heap_setCell wqcabx ⟨wqca.heap.size, 0, none⟩ (.int .i64 (p).x) _ ne)).trans h1)
                have h2 : wqcabxy.heap[wqca.heap.size]? = some (.cells #[.int .i64 (p).x, .int .i64 (p).y] 39 (0, 0)) := by rw [hwn]; exact set_cells (set_cells h2 (o := 0) _) (o := 1) _
                rw [← hwn] at h1
                have hS : Below w8.heap.size w8 wqcabxy := by rw [hwn]; exact (hS.setCell (p := ⟨wqca.heap.size, 0, none⟩) lh2 _).setCell (p := ⟨wqca.heap.size, 1, none⟩) lh2 _
                replace hwn := Lib.hid hwn
                (try simp only [List.getElem_toArray, List.getElem_cons_zero, List.getElem_cons_succ, Act.put, List.setIfInBounds_toArray, List.set_cons_zero, List.set_cons_succ])
                (try unfold wpTri)
                exact ⟨wqc.heap.size, wqca.heap.size, lh1, lh2, hS, h1, h2, by rw [hA.out]; simp only [Act.put, List.setIfInBounds_toArray, List.set_cons_zero, List.set_cons_succ]⟩
              · (try simp only [List.getElem_toArray, List.getElem_cons_zero, List.getElem_cons_succ])
                go_simp
                obtain ⟨wqcb, hwn⟩ : ∃ z, z = wqc.alloc (.cells #[.int .i64 0, .int .i64 0] 39) := ⟨_, rfl⟩
                rw [← hwn]
                have h2 : wqcb.heap[wqc.heap.size]? = some (.cells #[.int .i64 0, .int .i64 0] 39 (0, 0)) := by rw [hwn]; exact heap_new _ _ _ rfl
                have lh2 : w8.heap.size ≤ wqc.heap.size := hS.size
                have hS : Below w8.heap.size w8 wqcb := by rw [hwn]; exact hS.alloc hS.size _
                replace hwn := Lib.hid hwn
                refine ⟨by intros; exact hS, ?_⟩
                (try simp only [List.getElem_toArray, List.getElem_cons_zero, List.getElem_cons_succ, Act.put, List.setIfInBounds_toArray, List.set_cons_zero, List.set_cons_succ])
                refine wpTri_do rfl (by rfl) ?_
                (try simp only [List.getElem_toArray, List.getElem_cons_zero, List.getElem_cons_succ])
                go_simp
                obtain ⟨wqcba, hwn⟩ : ∃ z, z = wqcb.alloc (.cells #[.int .i64 0, .int .i64 0] 39) := ⟨_, rfl⟩
                rw [← hwn]
                have h1 : wqcba.heap[wqcb.heap.size]? = some (.cells #[.int .i64 0, .int .i64 0] 39 (0, 0)) := by rw [hwn]; exact heap_new _ _ _ rfl
                have lh1 : w8.heap.size ≤ wqcb.heap.size := hS.size
                have ne : wqc.heap.size ≠ wqcb.heap.size := Nat.ne_of_lt (lt_block h2)
                have h2 : wqcba.heap[wqc.heap.size]? = some (.cells #[.int .i64 0, .int .i64 0] 39 (0, 0)) := by rw [hwn]; exact heap_old _ _ _ _ h2
                have hS : Below w8.heap.size w8 wqcba := by rw [hwn]; exact hS.alloc hS.size _
                replace hwn := Lib.hid hwn
                refine ⟨by intros; exact hS, ?_⟩
                (try simp only [List.getElem_toArray, List.getElem_cons_zero, List.getElem_cons_succ, Act.put, List.setIfInBounds_toArray, List.set_cons_zero, List.set_cons_succ])
                refine wpTri_do rfl (by rfl) ?_
                (try simp only [List.getElem_toArray, List.getElem_cons_zero, List.getElem_cons_succ])
                obtain ⟨y0, y1⟩ := cells2 h1
                have f0 := frozen_row h1 0
                have f1 := frozen_row h1 1
                go_simp
                clear y0 y1 f0 f1
                obtain ⟨wqcbax, hwn⟩ : ∃ z, z = (wqcba.setCell ⟨wqcb.heap.size, 0, none⟩ (.int .i64 (q).x)).setCell ⟨wqcb.heap.size, 1, none⟩ (.int .i64 (q).y) := ⟨_, rfl⟩
                rw [← hwn]
                have h2 := (((Below.heap_setCell (wqcba.setCell ⟨wqcb.heap.size, 0, none⟩ (.int .i64 (q).x)) ⟨wqcb.heap.size, 1, none⟩ (.int .i64 (q).y) _ ne).trans (Below.heap_setCell wqcba ⟨wqcb.heap.size, 0, none⟩ (.int .i64 (q).x) _ ne)).trans h2)
                have h1 : wqcbax.heap[wqcb.heap.size]? = some (.cells #[.int .i64 (q).x, .int .i64 (q).y] 39 (0, 0)) := by rw [hwn]; exact set_cells (set_cells h1 (o := 0) _) (o := 1) _
                rw [← hwn] at h2
                have hS : Below w8.heap.size w8 wqcbax := by rw [hwn]; exact (hS.setCell (p := ⟨wqcb.heap.size, 0, none⟩) lh1 _).setCell (p := ⟨wqcb.heap.size, 1, none⟩) lh1 _
                replace hwn := Lib.hid hwn
                (try simp only [List.getElem_toArray, List.getElem_cons_zero, List.getElem_cons_succ, Act.put, List.setIfInBounds_toArray, List.set_cons_zero, List.set_cons_succ])
                refine wpTri_do rfl (by rfl) ?_
                (try simp only [List.getElem_toArray, List.getElem_cons_zero, List.getElem_cons_succ])
                obtain ⟨y0, y1⟩ := cells2 h2
                have f0 := frozen_row h2 0
                have f1 := frozen_row h2 1
                go_simp
                clear y0 y1 f0 f1
                obtain ⟨wqcbaxy, hwn⟩ : ∃ z, z = (wqcbax.setCell ⟨wqc.heap.size, 0, none⟩ (.int .i64 (p).x)).setCell ⟨wqc.heap.size, 1, none⟩ (.int .i64 (p).y) := ⟨_, rfl⟩
                rw [← hwn]
                have h1 := (((Below.heap_setCell (wqcbax.setCell ⟨wqc.heap.size, 0, none⟩ (.int .i64 (p).x)) ⟨wqc.heap.size, 1, none⟩ (.int .i64 (p).y) _ ne.symm).trans (Below.heap_setCell wqcbax ⟨wqc.heap.size, 0, none⟩ (.int .i64 (p).x) _ ne.symm)).trans h1)
                have h2 : wqcbaxy.heap[wqc.heap.size]? = some (.cells #[.int .i64 (p).x, .int .i64 (p).y] 39 (0, 0)) := by rw [hwn]; exact set_cells (set_cells h2 (o := 0) _) (o := 1) _
                rw [← hwn] at h1
                have hS : Below w8.heap.size w8 wqcbaxy := by rw [hwn]; exact (hS.setCell (p := ⟨wqc.heap.size, 0, none⟩) lh2 _).setCell (p := ⟨wqc.heap.size, 1, none⟩) lh2 _
                replace hwn := Lib.hid hwn
                (try simp only [List.getElem_toArray, List.getElem_cons_zero, List.getElem_cons_succ, Act.put, List.setIfInBounds_toArray, List.set_cons_zero, List.set_cons_succ])
                (try unfold wpTri)
                exact ⟨wqcb.heap.size, wqc.heap.size, lh1, lh2, hS, h1, h2, by rw [hA.out]; simp only [Act.put, List.setIfInBounds_toArray, List.set_cons_zero, List.set_cons_succ]⟩
            · (try simp only [List.getElem_toArray, List.getElem_cons_zero, List.getElem_cons_succ])
              go_simp
              obtain ⟨wqa, hwn⟩ : ∃ z, z = wq.alloc (.cells #[.int .i64 0, .int .i64 0] 39) := ⟨_, rfl⟩
              rw [← hwn]
              have h1 : wqa.heap[wq.heap.size]? = some (.cells #[.int .i64 0, .int .i64 0] 39 (0, 0)) := by rw [hwn]; exact heap_new _ _ _ rfl
              have lh1 : w8.heap.size ≤ wq.heap.size := hS.size
              have hS : Below w8.heap.size w8 wqa := by rw [hwn]; exact hS.alloc hS.size _
              replace hwn := Lib.hid hwn
              refine ⟨by intros; exact hS, ?_⟩
              (try simp only [List.getElem_toArray, List.getElem_cons_zero, List.getElem_cons_succ, Act.put, List.setIfInBounds_toArray, List.set_cons_zero, List.set_cons_succ])
              refine wpTri_two rfl (by rfl) rfl (by rfl) ?_ ?_
              · (try simp only [List.getElem_toArray, List.getElem_cons_zero, List.getElem_cons_succ])
                go_simp
                go_at_call 19
                (with_reducible refine (d19j.out _ hS).mono ?_)
                rintro e2 wqac ⟨rfl, hbc⟩
                have hSq := hS
                have hS := hS.trans (hbc.mono hS.size)
                have h1 := (hbc.block _ (lt_block h1)).trans h1
                refine ⟨by intros; exact hS, ?_⟩
                (try simp only [List.getElem_toArray, List.getElem_cons_zero, List.getElem_cons_succ, Act.put, List.setIfInBounds_toArray, List.set_cons_zero, List.set_cons_succ])
                refine wpTri_pure (v := ?_) rfl (by rfl) ?_ (fun _ _ _ h => h) ?_
                rotate_left
                focus (intro w'; (try simp only [List.getElem_toArray, List.getElem_cons_zero, List.getElem_cons_succ]); go_simp; try with_reducible rfl)
                (try simp only [List.getElem_toArray, List.getElem_cons_zero, List.getElem_cons_succ, Act.put, List.setIfInBounds_toArray, List.set_cons_zero, List.set_cons_succ])
                refine wpTri_pure (v := ?_) rfl (by rfl) ?_ (fun _ _ _ h => h) ?_
                rotate_left
                focus (intro w'; (try simp only [List.getElem_toArray, List.getElem_cons_zero, List.getElem_cons_succ]); go_simp; try with_reducible rfl)
                (try simp only [List.getElem_toArray, List.getElem_cons_zero, List.getElem_cons_succ, Act.put, List.setIfInBounds_toArray, List.set_cons_zero, List.set_cons_succ])
                refine wpTri_pure (v := ?_) rfl (by rfl) ?_ (fun _ _ _ h => h) ?_
                rotate_left
                focus (intro w'; (try simp only [List.getElem_toArray, List.getElem_cons_zero, List.getElem_cons_succ]); go_simp; try with_reducible rfl)
                (try simp only [List.getElem_toArray, List.getElem_cons_zero, List.getElem_cons_succ, Act.put, List.setIfInBounds_toArray, List.set_cons_zero, List.set_cons_succ])
                refine wpTri_do rfl (by rfl) ?_
                (try simp only [List.getElem_toArray, List.getElem_cons_zero, List.getElem_cons_succ])
                go_simp
                obtain ⟨wqacb, hwn⟩ : ∃ z, z = wqac.alloc (.cells #[.int .i64 0, .int .i64 0] 39) := ⟨_, rfl⟩
                rw [← hwn]
                have h2 : wqacb.heap[wqac.heap.size]? = some (.cells #[.int .i64 0, .int .i64 0] 39 (0, 0)) := by rw [hwn]; exact heap_new _ _ _ rfl
                have lh2 : w8.heap.size ≤ wqac.heap.size := hS.size
                have ne : wq.heap.size ≠ wqac.heap.size := Nat.ne_of_lt (lt_block h1)
                have h1 : wqacb.heap[wq.heap.size]? = some (.cells #[.int .i64 0, .int .i64 0] 39 (0, 0)) := by rw [hwn]; exact heap_old _ _ _ _ h1
                have hS : Below w8.heap.size w8 wqacb := by rw [hwn]; exact hS.alloc hS.size _
                replace hwn := Lib.hid hwn
                refine ⟨by intros; exact hS, ?_⟩
                (try simp only [List.getElem_toArray, List.getElem_cons_zero, List.getElem_cons_succ, Act.put, List.setIfInBounds_toArray, List.set_cons_zero, List.set_cons_succ])
                refine wpTri_do rfl (by rfl) ?_
                (try simp only [List.getElem_toArray, List.getElem_cons_zero, List.getElem_cons_succ])
                obtain ⟨y0, y1⟩ := cells2 h1
                have f0 := frozen_row h1 0
                have f1 := frozen_row h1 1
                go_simp
                clear y0 y1 f0 f1
                obtain ⟨wqacbx, hwn⟩ : ∃ z, z = (wqacb.setCell ⟨wq.heap.size, 0, none⟩ (.int .i64 (q).x)).setCell ⟨wq.heap.size, 1, none⟩ (.int .i64 (q).y) := ⟨_, rfl⟩
                rw [← hwn]
                have h2 := (((Below.heap_setCell (wqacb.setCell ⟨wq.heap.size, 0, none⟩ (.int .i64 (q).x)) ⟨wq.heap.size, 1, none⟩ (.int .i64 (q).y) _ ne.symm).trans (Below.heap_setCell wqacb ⟨wq.heap.size, 0, none⟩ (.int .i64 (q).x) _ ne.symm)).trans h2)
                have h1 : wqacbx.heap[wq.heap.size]? = some (.cells #[.int .i64 (q).x, .int .i64 (q).y] 39 (0, 0)) := by rw [hwn]; exact set_cells (set_cells h1 (o := 0) _) (o := 1) _
                rw [← hwn] at h2
                have hS : Below w8.heap.size w8 wqacbx := by rw [hwn]; exact (hS.setCell (p := ⟨wq.heap.size, 0, none⟩) lh1 _).setCell (p := ⟨wq.heap.size, 1, none⟩) lh1 _
                replace hwn := Lib.hid hwn
                (try simp only [List.getElem_toArray, List.getElem_cons_zero, List.getElem_cons_succ, Act.put, List.setIfInBounds_toArray, List.set_cons_zero, List.set_cons_succ])
                refine wpTri_do rfl (by rfl) ?_
                (try simp only [List.getElem_toArray, List.getElem_cons_zero, List.getElem_cons_succ])
                obtain ⟨y0, y1⟩ := cells2 h2
                have f0 := frozen_row h2 0
                have f1 := frozen_row h2 1
                go_simp
                clear y0 y1 f0 f1
                obtain ⟨wqacbxy, hwn⟩ : ∃ z, z = (wqacbx.setCell ⟨wqac.heap.size, 0, none⟩ (.int .i64 (p).x)).setCell ⟨wqac.heap.size, 1, none⟩ (.int .i64 (p).y) := ⟨_, rfl⟩
                rw [← hwn]
                have h1 := (((Below.heap_setCell (wqacbx.setCell ⟨wqac.heap.size, 0, none⟩ (.int .i64 (p).x)) ⟨wqac.heap.size, 1, none⟩ (.int .i64 (p).y) _ ne).trans (Below.heap_setCell wqacbx ⟨wqac.heap.size, 0, none⟩ (.int .i64 (p).x) _ ne)).trans h1)
                have h2 : wqacbxy.heap[wqac.heap.size]? = some (.cells #[.int .i64 (p).x, .int .i64 (p).y] 39 (0, 0)) := by rw [hwn]; exact set_cells (set_cells h2 (o := 0) _) (o := 1) _
                rw [← hwn] at h1
                have hS : Below w8.heap.size w8 wqacbxy := by rw [hwn]; exact (hS.setCell (p := ⟨wqac.heap.size, 0, none⟩) lh2 _).setCell (p := ⟨wqac.heap.size, 1, none⟩) lh2 _
                replace hwn := Lib.hid hwn
                (try simp only [List.getElem_toArray, List.getElem_cons_zero, List.getElem_cons_succ, Act.put, List.setIfInBounds_toArray, List.set_cons_zero, List.set_cons_succ])
                (try unfold wpTri)
                exact ⟨wq.heap.size, wqac.heap.size, lh1, lh2, hS, h1, h2, by rw [hA.out]; simp only [Act.put, List.setIfInBounds_toArray, List.set_cons_zero, List.set_cons_succ]⟩
              · (try simp only [List.getElem_toArray, List.getElem_cons_zero, List.getElem_cons_succ])
                go_simp
                obtain ⟨wqab, hwn⟩ : ∃ z, z = wqa.alloc (.cells #[.int .i64 0, .int .i64 0] 39) := ⟨_, rfl⟩
                rw [← hwn]
                have h2 : wqab.heap[wqa.heap.size]? = some (.cells #[.int .i64 0, .int .i64 0] 39 (0, 0)) := by rw [hwn]; exact heap_new _ _ _ rfl
                have lh2 : w8.heap.size ≤ wqa.heap.size := hS.size
                have ne : wq.heap.size ≠ wqa.heap.size := Nat.ne_of_lt (lt_block h1)
                have h1 : wqab.heap[wq.heap.size]? = some (.cells #[.int .i64 0, .int .i64 0] 39 (0, 0)) := by rw [hwn]; exact heap_old _ _ _ _ h1
                have hS : Below w8.heap.size w8 wqab := by rw [hwn]; exact hS.alloc hS.size _
                replace hwn := Lib.hid hwn
                refine ⟨by intros; exact hS, ?_⟩
                (try simp only [List.getElem_toArray, List.getElem_cons_zero, List.getElem_cons_succ, Act.put, List.setIfInBounds_toArray, List.set_cons_zero, List.set_cons_succ])
                refine wpTri_do rfl (by rfl) ?_
                (try simp only [List.getElem_toArray, List.getElem_cons_zero, List.getElem_cons_succ])
                go_simp
                go_at_call 19
                (with_reducible refine (d19j.out _ hS).mono ?_)
                rintro e2 wqabc ⟨rfl, hbc⟩
                have hSq := hS
                have hS := hS.trans (hbc.mono hS.size)
                have h1 := (hbc.block _ (lt_block h1)).trans h1
                have h2 := (hbc.block _ (lt_block h2)).trans h2
                refine ⟨by intros; exact hS, ?_⟩
                (try simp only [List.getElem_toArray, List.getElem_cons_zero, List.getElem_cons_succ, Act.put, List.setIfInBounds_toArray, List.set_cons_zero, List.set_cons_succ])
                refine wpTri_pure (v := ?_) rfl (by rfl) ?_ (fun _ _ _ h => h) ?_
                rotate_left
                focus (intro w'; (try simp only [List.getElem_toArray, List.getElem_cons_zero, List.getElem_cons_succ]); go_simp; try with_reducible rfl)
                (try simp only [List.getElem_toArray, List.getElem_cons_zero, List.getElem_cons_succ, Act.put, List.setIfInBounds_toArray, List.set_cons_zero, List.set_cons_succ])
                refine wpTri_pure (v := ?_) rfl (by rfl) ?_ (fun _ _ _ h => h) ?_
                rotate_left
                focus (intro w'; (try simp only [List.getElem_toArray, List.getElem_cons_zero, List.getElem_cons_succ]); go_simp; try with_reducible rfl)
                (try simp only [List.getElem_toArray, List.getElem_cons_zero, List.getElem_cons_succ, Act.put, List.setIfInBounds_toArray, List.set_cons_zero, List.set_cons_succ])
                refine wpTri_pure (v := ?_) rfl (by rfl) ?_ (fun _ _ _ h => h) ?_
                rotate_left
                focus (intro w'; (try simp only [List.getElem_toArray, List.getElem_cons_zero, List.getElem_cons_succ]); go_simp; try with_reducible rfl)
                (try simp only [List.getElem_toArray, List.getElem_cons_zero, List.getElem_cons_succ, Act.put, List.setIfInBounds_toArray, List.set_cons_zero, List.set_cons_succ])
                refine wpTri_do rfl (by rfl) ?_
                (try simp only [List.getElem_toArray, List.getElem_cons_zero, List.getElem_cons_succ])
                obtain ⟨y0, y1⟩ := cells2 h1
                have f0 := frozen_row h1 0
                have f1 := frozen_row h1 1
                go_simp
                clear y0 y1 f0 f1
                obtain ⟨wqabcx, hwn⟩ : ∃ z, z = (wqabc.setCell ⟨wq.heap.size, 0, none⟩ (.int .i64 (q).x)).setCell ⟨wq.heap.size, 1, none⟩ (.int .i64 (q).y) := ⟨_, rfl⟩
                rw [← hwn]
                have h2 := (((Below.heap_setCell (wqabc.setCell ⟨wq.heap.size, 0, none⟩ (.int .i64 (q).x)) ⟨wq.heap.size, 1, none⟩ (.int .i64 (q).y) _ ne.symm).trans (Below.heap_setCell wqabc ⟨wq.heap.size, 0, none⟩ (.int .i64 (q).x) _ ne.symm)).trans h2)
                have h1 : wqabcx.heap[wq.heap.size]? = some (.cells #[.int .i64 (q).x, .int .i64 (q).y] 39 (0, 0)) := by rw [hwn]; exact set_cells (set_cells h1 (o := 0) _) (o := 1) _
                rw [← hwn] at h2
                have hS : Below w8.heap.size w8 wqabcx := by rw [hwn]; exact (hS.setCell (p := ⟨wq.heap.size, 0, none⟩) lh1 _).setCell (p := ⟨wq.heap.size, 1, none⟩) lh1 _
                replace hwn := Lib.hid hwn
                (try simp only [List.getElem_toArray, List.getElem_cons_zero, List.getElem_cons_succ, Act.put, List.setIfInBounds_toArray, List.set_cons_zero, List.set_cons_succ])
                refine wpTri_do rfl (by rfl) ?_
                (try simp only [List.getElem_toArray, List.getElem_cons_zero, List.getElem_cons_succ])
                obtain ⟨y0, y1⟩ := cells2 h2
                have f0 := frozen_row h2 0
                have f1 := frozen_row h2 1
                go_simp
                clear y0 y1 f0 f1
                obtain ⟨wqabcxy, hwn⟩ : ∃ z, z = (wqabcx.setCell ⟨wqa.heap.size, 0, none⟩ (.int .i64 (p).x)).setCell ⟨wqa.heap.size, 1, none⟩ (.int .i64 (p).y) := ⟨_, rfl⟩
                rw [← hwn]
                have h1 := (((Below.heap_setCell (wqabcx.setCell ⟨wqa.heap.size, 0, none⟩ (.int .i64 (p).x)) ⟨wqa.heap.size, 1, none⟩ (.int .i64 (p).y) _ ne).trans (Below.heap_setCell wqabcx ⟨wqa.heap.size, 0, none⟩ (.int .i64 (p).x) _ ne)).trans h1)
                have h2 : wqabcxy.heap[wqa.heap.size]? = some (.cells #[.int .i64 (p).x, .int .i64 (p).y] 39 (0, 0)) := by rw [hwn]; exact set_cells (set_cells h2 (o := 0) _) (o := 1) _
                rw [← hwn] at h1
                have hS : Below w8.heap.size w8 wqabcxy := by rw [hwn]; exact (hS.setCell (p := ⟨wqa.heap.size, 0, none⟩) lh2 _).setCell (p := ⟨wqa.heap.size, 1, none⟩) lh2 _
                replace hwn := Lib.hid hwn
                (try simp only [List.getElem_toArray, List.getElem_cons_zero, List.getElem_cons_succ, Act.put, List.setIfInBounds_toArray, List.set_cons_zero, List.set_cons_succ])
                (try unfold wpTri)
                exact ⟨wq.heap.size, wqa.heap.size, lh1, lh2, hS, h1, h2, by rw [hA.out]; simp only [Act.put, List.setIfInBounds_toArray, List.set_cons_zero, List.set_cons_succ]⟩
            · (try simp only [List.getElem_toArray, List.getElem_cons_zero, List.getElem_cons_succ])
              go_simp
              obtain ⟨wqb, hwn⟩ : ∃ z, z = wq.alloc (.cells #[.int .i64 0, .int .i64 0] 39) := ⟨_, rfl⟩
              rw [← hwn]
              have h2 : wqb.heap[wq.heap.size]? = some (.cells #[.int .i64 0, .int .i64 0] 39 (0, 0)) := by rw [hwn]; exact heap_new _ _ _ rfl
              have lh2 : w8.heap.size ≤ wq.heap.size := hS.size
              have hS : Below w8.heap.size w8 wqb := by rw [hwn]; exact hS.alloc hS.size _
              replace hwn := Lib.hid hwn
              refine ⟨by intros; exact hS, ?_⟩
              (try simp only [List.getElem_toArray, List.getElem_cons_zero, List.getElem_cons_succ, Act.put, List.setIfInBounds_toArray, List.set_cons_zero, List.set_cons_succ])
              refine wpTri_two rfl (by rfl) rfl (by rfl) ?_ ?_
              · (try simp only [List.getElem_toArray, List.getElem_cons_zero, List.getElem_cons_succ])
                go_simp
                go_at_call 19
                (with_reducible refine (d19j.out _ hS).mono ?_)
                rintro e2 wqbc ⟨rfl, hbc⟩
                have hSq := hS
                have hS := hS.trans (hbc.mono hS.size)
                have h2 := (hbc.block _ (lt_block h2)).trans h2
                refine ⟨by intros; exact hS, ?_⟩
                (try simp only [List.getElem_toArray, List.getElem_cons_zero, List.getElem_cons_succ, Act.put, List.setIfInBounds_toArray, List.set_cons_zero, List.set_cons_succ])
                refine wpTri_pure (v := ?_) rfl (by rfl) ?_ (fun _ _ _ h => h) ?_
                rotate_left
                focus (intro w'; (try simp only [List.getElem_toArray, List.getElem_cons_zero, List.getElem_cons_succ]); go_simp; try with_reducible rfl)
                (try simp only [List.getElem_toArray, List.getElem_cons_zero, List.getElem_cons_succ, Act.put, List.setIfInBounds_toArray, List.set_cons_zero, List.set_cons_succ])
                refine wpTri_pure (v := ?_) rfl (by rfl) ?_ (fun _ _ _ h => h) ?_
                rotate_left
                focus (intro w'; (try simp only [List.getElem_toArray, List.getElem_cons_zero, List.getElem_cons_succ]); go_simp; try with_reducible rfl)
                (try simp only [List.getElem_toArray, List.getElem_cons_zero, List.getElem_cons_succ, Act.put, List.setIfInBounds_toArray, List.set_cons_zero, List.set_cons_succ])
                refine wpTri_pure (v := ?_) rfl (by rfl) ?_ (fun _ _ _ h => h) ?_
                rotate_left
                focus (intro w'; (try simp only [List.getElem_toArray, List.getElem_cons_zero, List.getElem_cons_succ]); go_simp; try with_reducible rfl)
                (try simp only [List.getElem_toArray, List.getElem_cons_zero, List.getElem_cons_succ, Act.put, List.setIfInBounds_toArray, List.set_cons_zero, List.set_cons_succ])
                refine wpTri_do rfl (by rfl) ?_
                (try simp only [List.getElem_toArray, List.getElem_cons_zero, List.getElem_cons_succ])
                go_simp
                obtain ⟨wqbca, hwn⟩ : ∃ z, z = wqbc.alloc (.cells #[.int .i64 0, .int .i64 0] 39) := ⟨_, rfl⟩
                rw [← hwn]
                have h1 : wqbca.heap[wqbc.heap.size]? = some (.cells #[.int .i64 0, .int .i64 0] 39 (0, 0)) := by rw [hwn]; exact heap_new _ _ _ rfl
                have lh1 : w8.heap.size ≤ wqbc.heap.size := hS.size
                have ne : wq.heap.size ≠ wqbc.heap.size := Nat.ne_of_lt (lt_block h2)
                have h2 : wqbca.heap[wq.heap.size]? = some (.cells #[.int .i64 0, .int .i64 0] 39 (0, 0)) := by rw [hwn]; exact heap_old _ _ _ _ h2
                have hS : Below w8.heap.size w8 wqbca := by rw [hwn]; exact hS.alloc hS.size _
                replace hwn := Lib.hid hwn
                refine ⟨by intros; exact hS, ?_⟩
                (try simp only [List.getElem_toArray, List.getElem_cons_zero, List.getElem_cons_succ, Act.put, List.setIfInBounds_toArray, List.set_cons_zero, List.set_cons_succ])
                refine wpTri_do rfl (by rfl) ?_
                (try simp only [List.getElem_toArray, List.getElem_cons_zero, List.getElem_cons_succ])
                obtain ⟨y0, y1⟩ := cells2 h1
                have f0 := frozen_row h1 0
                have f1 := frozen_row h1 1
                go_simp
                clear y0 y1 f0 f1
                obtain ⟨wqbcax, hwn⟩ : ∃ z, z = (wqbca.setCell ⟨wqbc.heap.size, 0, none⟩ (.int .i64 (q).x)).setCell ⟨wqbc.heap.size, 1, none⟩ (.int .i64 (q).y) := ⟨_, rfl⟩
                rw [← hwn]
                have h2 := (((Below.heap_setCell (wqbca.setCell ⟨wqbc.heap.size, 0, none⟩ (.int .i64 (q).x)) ⟨wqbc.heap.size, 1, none⟩ (.int .i64 (q).y) _ ne).trans (Below.heap_setCell wqbca ⟨wqbc.heap.size, 0, none⟩ (.int .i64 (q).x) _ ne)).trans h2)
                have h1 : wqbcax.heap[wqbc.heap.size]? = some (.cells #[.int .i64 (q).x, .int .i64 (q).y] 39 (0, 0)) := by rw [hwn]; exact set_cells (set_cells h1 (o := 0) _) (o := 1) _
                rw [← hwn] at h2
                have hS : Below w8.heap.size w8 wqbcax := by rw [hwn]; exact (hS.setCell (p := ⟨wqbc.heap.size, 0, none⟩) lh1 _).setCell (p := ⟨wqbc.heap.size, 1, none⟩) lh1 _
                replace hwn := Lib.hid hwn
                (try simp only [List.getElem_toArray, List.getElem_cons_zero, List.getElem_cons_succ, Act.put, List.setIfInBounds_toArray, List.set_cons_zero, List.set_cons_succ])
                refine wpTri_do rfl (by rfl) ?_
                (try simp only [List.getElem_toArray, List.getElem_cons_zero, List.getElem_cons_succ])
                obtain ⟨y0, y1⟩ := cells2 h2
                have f0 := frozen_row h2 0
                have f1 := frozen_row h2 1
                go_simp
                clear y0 y1 f0 f1
                obtain ⟨wqbcaxy, hwn⟩ : ∃ z, z = (wqbcax.setCell ⟨wq.heap.size, 0, none⟩ (.int .i64 (p).x)).setCell ⟨wq.heap.size, 1, none⟩ (.int .i64 (p).y) := ⟨_, rfl⟩
                rw [← hwn]
                have h1 := (((Below.heap_setCell (wqbcax.setCell ⟨wq.heap.size, 0, none⟩ (.int .i64 (p).x)) ⟨wq.heap.size, 1, none⟩ (.int .i64 (p).y) _ ne.symm).trans (Below.heap_setCell wqbcax ⟨wq.heap.size, 0, none⟩ (.int .i64 (p).x) _ ne.symm)).trans h1)
                have h2 : wqbcaxy.heap[wq.heap.size]? = some (.cells #[.int .i64 (p).x, .int .i64 (p).y] 39 (0, 0)) := by rw [hwn]; exact set_cells (set_cells h2 (o := 0) _) (o := 1) _
                rw [← hwn] at h1
                have hS : Below w8.heap.size w8 wqbcaxy := by rw [hwn]; exact (hS.setCell (p := ⟨wq.heap.size, 0, none⟩) lh2 _).setCell (p := ⟨wq.heap.size, 1, none⟩) lh2 _
                replace hwn := Lib.hid hwn
                (try simp only [List.getElem_toArray, List.getElem_cons_zero, List.getElem_cons_succ, Act.put, List.setIfInBounds_toArray, List.set_cons_zero, List.set_cons_succ])
                (try unfold wpTri)
                exact ⟨wqbc.heap.size, wq.heap.size, lh1, lh2, hS, h1, h2, by rw [hA.out]; simp only [Act.put, List.setIfInBounds_toArray, List.set_cons_zero, List.set_cons_succ]⟩
              · (try simp only [List.getElem_toArray, List.getElem_cons_zero, List.getElem_cons_succ])
                go_simp
                obtain ⟨wqba, hwn⟩ : ∃ z, z = wqb.alloc (.cells #[.int .i64 0, .int .i64 0] 39) := ⟨_, rfl⟩
                rw [← hwn]
                have h1 : wqba.heap[wqb.heap.size]? = some (.cells #[.int .i64 0, .int .i64 0] 39 (0, 0)) := by rw [hwn]; exact heap_new _ _ _ rfl
                have lh1 : w8.heap.size ≤ wqb.heap.size := hS.size
                have ne : wq.heap.size ≠ wqb.heap.size := Nat.ne_of_lt (lt_block h2)
                have h2 : wqba.heap[wq.heap.size]? = some (.cells #[.int .i64 0, .int .i64 0] 39 (0, 0)) := by rw [hwn]; exact heap_old _ _ _ _ h2
                have hS : Below w8.heap.size w8 wqba := by rw [hwn]; exact hS.alloc hS.size _
                replace hwn := Lib.hid hwn
                refine ⟨by intros; exact hS, ?_⟩
                (try simp only [List.getElem_toArray, List.getElem_cons_zero, List.getElem_cons_succ, Act.put, List.setIfInBounds_toArray, List.set_cons_zero, List.set_cons_succ])
                refine wpTri_do rfl (by rfl) ?_
                (try simp only [List.getElem_toArray, List.getElem_cons_zero, List.getElem_cons_succ])
                go_simp
                go_at_call 19
                (with_reducible refine (d19j.out _ hS).mono ?_)
                rintro e2 wqbac ⟨rfl, hbc⟩
                have hSq := hS
                have hS := hS.trans (hbc.mono hS.size)
                have h1 := (hbc.block _ (lt_block h1)).trans h1
                have h2 := (hbc.block _ (lt_block h2)).trans h2
                refine ⟨by intros; exact hS, ?_⟩
                (try simp only [List.getElem_toArray, List.getElem_cons_zero, List.getElem_cons_succ, Act.put, List.setIfInBounds_toArray, List.set_cons_zero, List.set_cons_succ])
                refine wpTri_pure (v := ?_) rfl (by rfl) ?_ (fun _ _ _ h => h) ?_
                rotate_left
                focus (intro w'; (try simp only [List.getElem_toArray, List.getElem_cons_zero, List.getElem_cons_succ]); go_simp; try with_reducible rfl)
                (try simp only [List.getElem_toArray, List.getElem_cons_zero, List.getElem_cons_succ, Act.put, List.setIfInBounds_toArray, List.set_cons_zero, List.set_cons_succ])
                refine wpTri_pure (v := ?_) rfl (by rfl) ?_ (fun _ _ _ h => h) ?_
                rotate_left
                focus (intro w'; (try simp only [List.getElem_toArray, List.getElem_cons_zero, List.getElem_cons_succ]); go_simp; try with_reducible rfl)
                (try simp only [List.getElem_toArray, List.getElem_cons_zero, List.getElem_cons_succ, Act.put, List.setIfInBounds_toArray, List.set_cons_zero, List.set_cons_succ])
                refine wpTri_pure (v := ?_) rfl (by rfl) ?_ (fun _ _ _ h => h) ?_
                rotate_left
                focus (intro w'; (try simp only [List.getElem_toArray, List.getElem_cons_zero, List.getElem_cons_succ]); go_simp; try with_reducible rfl)
                (try simp only [List.getElem_toArray, List.getElem_cons_zero, List.getElem_cons_succ, Act.put, List.setIfInBounds_toArray, List.set_cons_zero, List.set_cons_succ])
                refine wpTri_do rfl (by rfl) ?_
                (try simp only [List.getElem_toArray, List.getElem_cons_zero, List.getElem_cons_succ])
                obtain ⟨y0, y1⟩ := cells2 h1
                have f0 := frozen_row h1 0
                have f1 := frozen_row h1 1
                go_simp
                clear y0 y1 f0 f1
                obtain ⟨wqbacx, hwn⟩ : ∃ z, z = (wqbac.setCell ⟨wqb.heap.size, 0, none⟩ (.int .i64 (q).x)).setCell ⟨wqb.heap.size, 1, none⟩ (.int .i64 (q).y) := ⟨_, rfl⟩
                rw [← hwn]
                have h2 := (((Below.heap_setCell (wqbac.setCell ⟨wqb.heap.size, 0, none⟩ (.int .i64 (q).x)) ⟨wqb.heap.size, 1, none⟩ (.int .i64 (q).y) _ ne).trans (Below.heap_setCell wqbac ⟨wqb.heap.size, 0, none⟩ (.int .i64 (q).x) _ ne)).trans h2)
                have h1 : wqbacx.heap[wqb.heap.size]? = some (.cells #[.int .i64 (q).x, .int .i64 (q).y] 39 (0, 0)) := by rw [hwn]; exact set_cells (set_cells h1 (o := 0) _) (o := 1) _
                rw [← hwn] at h2
                have hS : Below w8.heap.size w8 wqbacx := by rw [hwn]; exact (hS.setCell (p := ⟨wqb.heap.size, 0, none⟩) lh1 _).setCell (p := ⟨wqb.heap.size, 1, none⟩) lh1 _
                replace hwn := Lib.hid hwn
                (try simp only [List.getElem_toArray, List.getElem_cons_zero, List.getElem_cons_succ, Act.put, List.setIfInBounds_toArray, List.set_cons_zero, List.set_cons_succ])
                refine wpTri_do rfl (by rfl) ?_
                (try simp only [List.getElem_toArray, List.getElem_cons_zero, List.getElem_cons_succ])
                obtain ⟨y0, y1⟩ := cells2 h2
                have f0 := frozen_row h2 0
                have f1 := frozen_row h2 1
                go_simp
                clear y0 y1 f0 f1
                obtain ⟨wqbacxy, hwn⟩ : ∃ z, z = (wqbacx.setCell ⟨wq.heap.size, 0, none⟩ (.int .i64 (p).x)).setCell ⟨wq.heap.size, 1, none⟩ (.int .i64 (p).y) := ⟨_, rfl⟩
                rw [← hwn]
                have h1 := (((Below.heap_setCell (wqbacx.setCell ⟨wq.heap.size, 0, none⟩ (.int .i64 (p).x)) ⟨wq.heap.size, 1, none⟩ (.int .i64 (p).y) _ ne.symm).trans (Below.heap_setCell wqbacx ⟨wq.heap.size, 0, none⟩ (.int .i64 (p).x) _ ne.symm)).trans h1)
                have h2 : wqbacxy.heap[wq.heap.size]? = some (.cells #[.int .i64 (p).x, .int .i64 (p).y] 39 (0, 0)) := by rw [hwn]; exact set_cells (set_cells h2 (o := 0) _) (o := 1) _
                rw [← hwn] at h1
                have hS : Below w8.heap.size w8 wqbacxy := by rw [hwn]; exact (hS.setCell (p := ⟨wq.heap.size, 0, none⟩) lh2 _).setCell (p := ⟨wq.heap.size, 1, none⟩) lh2 _
                replace hwn := Lib.hid hwn
                (try simp only [List.getElem_toArray, List.getElem_cons_zero, List.getElem_cons_succ, Act.put, List.setIfInBounds_toArray, List.set_cons_zero, List.set_cons_succ])
                (try unfold wpTri)
                exact ⟨wqb.heap.size, wq.heap.size, lh1, lh2, hS, h1, h2, by rw [hA.out]; simp only [Act.put, List.setIfInBounds_toArray, List.set_cons_zero, List.set_cons_succ]⟩
          rintro ⟨b12, b13, hb12, hb13, hw9, h12, h13, rfl⟩
          rw [hA.out]
          clear hA
          simp only [Act.put, List.setIfInBounds_toArray, List.set_cons_zero, List.set_cons_succ]
          have hX9 := Lib.hid (hX8.out.later hw9)
          replace h10 := (hw9.block _ (lt_block h10)).trans h10
          replace h11 := (hw9.block _ (lt_block h11)).trans h11
          obtain ⟨t0, t1⟩ := cells2 h10
          obtain ⟨t2, t3⟩ := cells2 h11
          obtain ⟨t4, t5⟩ := cells2 h12
          obtain ⟨t6, t7⟩ := cells2 h13
          go_wp2
          exact ⟨⟨n + 1, by go_num, by omega, hX9.out⟩, by simp only [intOf]; omega⟩
      · obtain rfl : n = L.length := by omega
        go_wp2_with (go_at_call 16; (with_reducible refine (c16.out _ hX.out.b).mono ?_); rintro e2 w9 ⟨rfl, hb9⟩)
        go_ret
        exact ⟨rfl, hX.out.b.trans (hb9.mono hX.out.b.size)⟩
  · have hz' := hz
    have h15 : Hid (∀ V, Below w.heap.size w V → Calls Tryd.prog 15 #[.agg #[.slice fa fs.length fc, .slice oa os.length oc]] V fun e w' => e = .returned (.int .i64 ce) ∧ Below V.heap.size V w') := d15.out
    clear d15 c15 c17 hok
    go_wp2_with (first | (go_at_call 15; (with_reducible refine (h15.out _ hBw1.out).mono ?_); rintro e2 w2 ⟨rfl, hb2⟩; have hBw2 : Hid (Below w.heap.size w w2) := hBw1.out.trans (hb2.mono hBw1.out.size)) | (go_at_call 16; (with_reducible refine (c16.out _ hBw2.out).mono ?_); rintro e3 w3 ⟨rfl, hb3⟩))
    go_ret
    exact ⟨rfl, hBw2.out.trans (hb3.mono hBw2.out.size)⟩
end Go.Proofs.YthojfhdenfhjfaaDoor
