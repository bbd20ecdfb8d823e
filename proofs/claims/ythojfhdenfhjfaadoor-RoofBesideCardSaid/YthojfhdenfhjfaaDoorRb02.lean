/-
  The table of the four sides, out of what the statement lists.
-/
import Derived.Test.YthojfhdenfhjfaaDoorTie
import Derived.Test.YthojfhdenfhjfaaDoorRa11
import Derived.Test.YthojfhdenfhjfaaDoorRb01
import Derived.LaidMore
import Derived.OpenShut
import Derived.Stop.Joined
set_option linter.all false
set_option linter.unusedVariables false
set_option linter.unusedSimpArgs false
namespace Go.Proofs.YthojfhdenfhjfaaDoor
open Go.RowKit Go.Lib Go.ChangeShapes Go.WideShapes Go.ChangeAt

theorem tc121 : Tryd.prog.cellsOf 121 = 4 := by kernel_rfl
theorem tc118 : Tryd.prog.cellsOf 118 = 1 := by kernel_rfl
theorem tc119 : Tryd.prog.cellsOf 119 = 1 := by kernel_rfl
theorem four_of {l : List Value} {a : Nat} {v0 v1 v2 v3 : Value} (h : (l.drop a).take 4 = [v0, v1, v2, v3]) : l[a]? = some v0 ∧ l[a + 1]? = some v1 ∧ l[a + 2]? = some v2 ∧ l[a + 3]? = some v3 := by
  have k : ∀ j, j < 4 → l[a + j]? = [v0, v1, v2, v3][j]? := fun j hj => by rw [← h, List.getElem?_take_of_lt hj, List.getElem?_drop]
  exact ⟨k 0 (by omega), k 1 (by omega), k 2 (by omega), k 3 (by omega)⟩
theorem int_of_trod {W : World} {m : Nat} {c : Value} {a : Int} {y : DataW (List UInt8) × List MemPlace} (h : DataW.trod (funcToken Tryd.prog) Tryd.prog W 0 (fun _ => true) true m 3 [c] = some y) (hy : y.1 = .lit (.int .i64 a)) : c = .int .i64 a := by
  obtain ⟨n, h1, h2, _⟩ := DataW.trod_int Tryd.underlying3 h
  have h2' : y.1 = .lit (.int .i64 n) := by rw [h2]
  rw [hy] at h2'
  cases h2'
  exact (List.cons.inj h1).1
set_option maxRecDepth 100000 in
theorem fall_row {W : World} {m : Nat} {cs : List Value} {y : DataW (List UInt8) × List MemPlace} {a b : Int} {n1 n2 : List UInt8} {c1 c2 : UInt8} {g1 g2 : FuncId}
    (h : DataW.trod (funcToken Tryd.prog) Tryd.prog W 0 (fun _ => true) true m 121 cs = some y) (hy : y.1 = .agg [.agg [.lit (.int .i64 a), .lit (.int .i64 b)], .held (c1 :: n1), .held (c2 :: n2)])
    (h1 : ((List.range Tryd.prog.funcs.size).filter fun f => (Tryd.prog.funcs[f]?).any (·.name.toUTF8.data.toList == c1 :: n1)) = [g1])
    (h2 : ((List.range Tryd.prog.funcs.size).filter fun f => (Tryd.prog.funcs[f]?).any (·.name.toUTF8.data.toList == c2 :: n2)) = [g2]) : cs = [.int .i64 a, .int .i64 b, .func (.func g1) #[] #[], .func (.func g2) #[] #[]] := by
  obtain ⟨xs, k, _, rfl, hl, hx, hf⟩ := DataW.trod_struct Tryd.underlying121 h
  rw [tc121] at hl
  match cs, hl with
  | [v0, v1, v2, v3], _ =>
    match xs, hx with
    | [y0, y1, y2], _ =>
      have f0 : DataW.trod (funcToken Tryd.prog) Tryd.prog W 0 (fun _ => true) true k 39 [v0, v1] = some y0 := by have q : DataW.trod (funcToken Tryd.prog) Tryd.prog W 0 (fun _ => true) true k 39 (([v0, v1, v2, v3].drop 0).take (Tryd.prog.cellsOf 39)) = some y0 := hf 0 _ rfl; rw [tc39] at q; exact q
      have f1 : DataW.trod (funcToken Tryd.prog) Tryd.prog W 0 (fun _ => true) true k 118 [v2] = some y1 := by have q : DataW.trod (funcToken Tryd.prog) Tryd.prog W 0 (fun _ => true) true k 118 (([v0, v1, v2, v3].drop 2).take (Tryd.prog.cellsOf 118)) = some y1 := hf 1 _ rfl; rw [tc118] at q; exact q
      have f2 : DataW.trod (funcToken Tryd.prog) Tryd.prog W 0 (fun _ => true) true k 119 [v3] = some y2 := by have q : DataW.trod (funcToken Tryd.prog) Tryd.prog W 0 (fun _ => true) true k 119 (([v0, v1, v2, v3].drop 3).take (Tryd.prog.cellsOf 119)) = some y2 := hf 2 _ rfl; rw [tc119] at q; exact q
      have e := DataW.agg.inj hy
      simp only [List.map_cons, List.map_nil, List.cons.injEq, and_true] at e
      obtain ⟨e0, e1, e2⟩ := e
      obtain ⟨zs, k', _, rfl, hl', hx', hf'⟩ := DataW.trod_struct Tryd.underlying39 f0
      match zs, hx' with
      | [z0, z1], _ =>
        have p0 : DataW.trod (funcToken Tryd.prog) Tryd.prog W 0 (fun _ => true) true k' 3 [v0] = some z0 := by have q : DataW.trod (funcToken Tryd.prog) Tryd.prog W 0 (fun _ => true) true k' 3 (([v0, v1].drop 0).take (Tryd.prog.cellsOf 3)) = some z0 := hf' 0 _ rfl; rw [tc3] at q; exact q
        have p1 : DataW.trod (funcToken Tryd.prog) Tryd.prog W 0 (fun _ => true) true k' 3 [v1] = some z1 := by have q : DataW.trod (funcToken Tryd.prog) Tryd.prog W 0 (fun _ => true) true k' 3 (([v0, v1].drop 1).take (Tryd.prog.cellsOf 3)) = some z1 := hf' 1 _ rfl; rw [tc3] at q; exact q
        have e3 := DataW.agg.inj e0
        simp only [List.map_cons, List.map_nil, List.cons.injEq, and_true] at e3
        rw [int_of_trod p0 e3.1, int_of_trod p1 e3.2]
        obtain ⟨y1a, y1b⟩ := y1
        obtain ⟨y2a, y2b⟩ := y2
        dsimp only at e1 e2
        subst e1 e2
        rw [func_of_trod Tryd.underlying118 h1 f1, func_of_trod Tryd.underlying119 h2 f2]
set_option maxRecDepth 100000 in
theorem fax_of {W : World} (h : laidMetH Tryd.prog [("thatch/roof.falls", Rows.laid_thatch_roof_falls)] W) : FaX W := by
  obtain ⟨g, t, cs, fuel, p, hg, ht, hv, hd⟩ := h.funcs (List.mem_singleton.2 rfl)
  obtain rfl := Option.some.inj ((show Tryd.prog.globalNamed "thatch/roof.falls" = some 0 by kernel_rfl).symm.trans hg)
  obtain rfl := Option.some.inj ((show (Tryd.prog.globals[0]?).map (·.type) = some 122 by kernel_rfl).symm.trans ht)
  have hd' : DataW.trod (funcToken Tryd.prog) Tryd.prog W 0 (fun _ => true) true fuel 122 cs.toList = some (.agg [.agg [.agg [.lit (.int .i64 0), .lit (.int .i64 0)], .nil, .nil], .agg [.agg [.lit (.int .i64 0), .lit (.int .i64 1)], .held [116, 104, 97, 116, 99, 104, 47, 114, 111, 111, 102, 46, 102, 97, 108, 108, 115, 36, 49], .held [116, 104, 97, 116, 99, 104, 47, 114, 111, 111, 102, 46, 102, 97, 108, 108, 115, 36, 50]], .agg [.agg [.lit (.int .i64 (-1)), .lit (.int .i64 0)], .held [116, 104, 97, 116, 99, 104, 47, 114, 111, 111, 102, 46, 102, 97, 108, 108, 115, 36, 51], .held [116, 104, 97, 116, 99, 104, 47, 114, 111, 111, 102, 46, 102, 97, 108, 108, 115, 36, 52]], .agg [.agg [.lit (.int .i64 0), .lit (.int .i64 (-1))], .held [116, 104, 97, 116, 99, 104, 47, 114, 111, 111, 102, 46, 102, 97, 108, 108, 115, 36, 53], .held [116, 104, 97, 116, 99, 104, 47, 114, 111, 111, 102, 46, 102, 97, 108, 108, 115, 36, 54]], .agg [.agg [.lit (.int .i64 1), .lit (.int .i64 0)], .held [116, 104, 97, 116, 99, 104, 47, 114, 111, 111, 102, 46, 102, 97, 108, 108, 115, 36, 55], .held [116, 104, 97, 116, 99, 104, 47, 114, 111, 111, 102, 46, 102, 97, 108, 108, 115, 36, 56]]], p) := hd
  obtain ⟨xs, m, _, ex, hlen, hl, hel⟩ := DataW.trod_array Tryd.underlying122 hd'
  have e := DataW.agg.inj (Prod.mk.inj ex).1
  match xs, hl with
  | [x0, x1, x2, x3, x4], _ =>
    simp only [List.map_cons, List.map_nil, List.cons.injEq, and_true] at e
    obtain ⟨_, e1, e2, e3, e4⟩ := e
    have k1 := hel 1 (by omega)
    have k2 := hel 2 (by omega)
    have k3 := hel 3 (by omega)
    have k4 := hel 4 (by omega)
    rw [tc121] at k1 k2 k3 k4
    have r1 := four_of (fall_row (g1 := 143) (g2 := 144) k1 e1.symm (by kernel_rfl) (by kernel_rfl))
    have r2 := four_of (fall_row (g1 := 145) (g2 := 146) k2 e2.symm (by kernel_rfl) (by kernel_rfl))
    have r3 := four_of (fall_row (g1 := 147) (g2 := 148) k3 e3.symm (by kernel_rfl) (by kernel_rfl))
    have r4 := four_of (fall_row (g1 := 149) (g2 := 150) k4 e4.symm (by kernel_rfl) (by kernel_rfl))
    have c : ∀ j, W.cell? ⟨0, j, none⟩ = cs.toList[j]? := fun j => by rw [World.var?_cell hg hv j, Array.getElem?_toList]
    refine ⟨?_, ?_, ?_, ?_⟩ <;> simp only [c]
    · exact r1
    · exact r2
    · exact r3
    · exact r4
/-- The door's own heap meets the condition. -/
theorem door_met (os : Os) (args : Array Value) : laidMetH Tryd.prog [("thatch/roof.falls", Rows.laid_thatch_roof_falls)] ((World.doorLaid Tryd.prog 600 os).forCall (fun _ _ => 0) ⟨#[], args, []⟩).memory :=
  laidMetH_of_parts3 (fuel := 8) (laidMet_of_run' 8 (by kernel_rfl) (by kernel_rfl)) (by kernel_rfl) (by kernel_rfl)
end Go.Proofs.YthojfhdenfhjfaaDoor
