/-
  The law StrawChecks, walked.
-/
import Derived.Test.YtpgkhlpepckfgaaSCheck
import Derived.Test.YtpgkhlpepckfgaaSStored
import Derived.Test.YtpgkhlpepckfgaaSNewE
import Derived.Test.YtpgkhlpepckfgaaSRNew
import Derived.Test.YtpgkhlpepckfgaaSWalk2
import Derived.Test.YtpgkhlpepckfgaaGreat
import Derived.Test.YtpgkhlpepckfgaaLives
namespace Go.Proofs.Ytpgkhlpepckfgaa
open Go.RowKit Go.Lib

/-- The farm, the store and two first stores in their variables. -/
structure CX (w : World) (A : Option Addr) (c : Nat) (pl : List Plot) (dry : Int) (s t u : Store) (x y : Nat) (wr : World) : Prop extends FS w A c pl dry s wr where
  bt : wr.heap[x]? = some (.cells (storeCells t) 43 (0, 0))
  bu : wr.heap[y]? = some (.cells (storeCells u) 43 (0, 0))
  rt : RdStore wr t
  ru : RdStore wr u
section
variable {w : World} {A : Option Addr} {c : Nat} {pl : List Plot} {dry : Int} {s t u : Store} {x y : Nat} {wr wx : World}
theorem CX.later (h : CX w A c pl dry s t u x y wr) (hb : Below wr.heap.size wr wx) : CX w A c pl dry s t u x y wx :=
  ⟨h.toFS.later hb, (hb.block _ (Array.getElem?_eq_some_iff.1 h.bt).1).trans h.bt, (hb.block _ (Array.getElem?_eq_some_iff.1 h.bu).1).trans h.bu, h.rt.below hb, h.ru.below hb⟩
theorem CX.held (h : CX w A c pl dry s t u x y wr) :
    wr.cell? ⟨w.heap.size, 0, none⟩ = some (.slice A pl.length c) ∧ wr.cell? ⟨w.heap.size, 1, none⟩ = some (.int .i64 dry) ∧
    wr.cell? ⟨w.heap.size + 1, 0, none⟩ = some (.int .i64 s.year) ∧ wr.cell? ⟨w.heap.size + 1, 1, none⟩ = some (.slice s.la s.last.length s.lc) ∧ wr.cell? ⟨w.heap.size + 1, 2, none⟩ = some (.slice s.ga s.given.length s.gc) ∧ wr.cell? ⟨w.heap.size + 1, 3, none⟩ = some (.slice s.ha s.heaps.length s.hc) ∧ wr.cell? ⟨w.heap.size + 1, 4, none⟩ = some (.slice s.ua s.used.length s.uc) ∧ wr.cell? ⟨w.heap.size + 1, 5, none⟩ = some (.slice s.wa s.waste.length s.wc) ∧
    wr.cell? ⟨x, 0, none⟩ = some (.int .i64 t.year) ∧ wr.cell? ⟨x, 1, none⟩ = some (.slice t.la t.last.length t.lc) ∧ wr.cell? ⟨x, 2, none⟩ = some (.slice t.ga t.given.length t.gc) ∧ wr.cell? ⟨x, 3, none⟩ = some (.slice t.ha t.heaps.length t.hc) ∧ wr.cell? ⟨x, 4, none⟩ = some (.slice t.ua t.used.length t.uc) ∧ wr.cell? ⟨x, 5, none⟩ = some (.slice t.wa t.waste.length t.wc) ∧
    wr.cell? ⟨y, 0, none⟩ = some (.int .i64 u.year) ∧ wr.cell? ⟨y, 1, none⟩ = some (.slice u.la u.last.length u.lc) ∧ wr.cell? ⟨y, 2, none⟩ = some (.slice u.ga u.given.length u.gc) ∧ wr.cell? ⟨y, 3, none⟩ = some (.slice u.ha u.heaps.length u.hc) ∧ wr.cell? ⟨y, 4, none⟩ = some (.slice u.ua u.used.length u.uc) ∧ wr.cell? ⟨y, 5, none⟩ = some (.slice u.wa u.waste.length u.wc) ∧
    CX w A c pl dry s t u x y wr := by
  obtain ⟨a0, a1⟩ := h.toFS.cells
  obtain ⟨b0, b1, b2, b3, b4, b5⟩ := six_cells h.store
  obtain ⟨c0, c1, c2, c3, c4, c5⟩ := six_cells h.bt
  obtain ⟨d0, d1, d2, d3, d4, d5⟩ := six_cells h.bu
  exact ⟨a0, a1, b0, b1, b2, b3, b4, b5, c0, c1, c2, c3, c4, c5, d0, d1, d2, d3, d4, d5, h⟩
theorem CX.make {w3 w4 : World} (hF : FS w A c pl dry s w3) (ht : RdStore w3 t) (hb4 : Below (w3.alloc (.cells (storeCells t) 43)).heap.size (w3.alloc (.cells (storeCells t) 43)) w4) (hu : RdStore w4 u) : CX w A c pl dry s t u w3.heap.size w4.heap.size (w4.alloc (.cells (storeCells u) 43)) := by
  have h1 : Below w3.heap.size w3 (w3.alloc (.cells (storeCells t) 43)) := (Below.refl _ w3).alloc (Nat.le_refl _) _
  have h2 : Below w4.heap.size w4 (w4.alloc (.cells (storeCells u) 43)) := (Below.refl _ w4).alloc (Nat.le_refl _) _
  exact ⟨((hF.later h1).later hb4).later h2, heap_old _ _ _ _ ((hb4.block _ (by simp)).trans (heap_new _ _ _ rfl)), heap_new _ _ _ rfl, ((ht.below h1).below hb4).below h2, hu.below h2⟩
end
theorem SameS.trans' {a s t : Store} (h1 : SameS a s) (h2 : SameS a t) : SameS s t := by
  refine ⟨by rw [h1.year, h2.year], by rw [h1.last, h2.last], by rw [h1.given, h2.given], by rw [h1.used, h2.used], by rw [h1.waste, h2.waste], by rw [h1.hlen, h2.hlen], fun i hs ht => ?_⟩
  have hi : i < a.heaps.length := by rw [← h1.hlen]; exact hs
  have e1 := h1.heaps i hi hs
  have e2 := h2.heaps i hi ht
  exact ⟨by rw [e1.name, e2.name], by rw [e1.crop, e2.crop], by rw [e1.stage, e2.stage], by rw [e1.parts, e2.parts], by rw [e1.per, e2.per], by rw [e1.wet, e2.wet]⟩

set_option maxHeartbeats 4000000 in
set_option maxRecDepth 100000 in
theorem checks_any (A : Option Addr) (c : Nat) (pl : List Plot) (dry : Int) (s : Store) (w : World) (h : RdPlots w A pl) (hs : RdStore w s) :
    Calls Try.prog 5 #[.agg #[.slice A pl.length c, .int .i64 dry], storeVal s] w fun e w' => e = .returned (.bool true) ∧ Below w.heap.size w w' := by
  obtain ⟨W0, hW0⟩ : ∃ W0, W0 = (w.alloc (.cells #[.slice A pl.length c, .int .i64 dry] 24)).alloc (.cells (storeCells s) 43) := ⟨_, rfl⟩
  have hF0 : FS w A c pl dry s W0 := by rw [hW0]; exact FS.start
  obtain ⟨d1, d2⟩ := hF0.cells
  have hz1 : w.heap.size + 1 < W0.heap.size := hF0.size
  have hz0 : w.heap.size < W0.heap.size := by omega
  replace hF0 := Lib.hid hF0
  obtain ⟨ck, hck⟩ : ∃ ck, ck = checkI pl dry := ⟨_, rfl⟩
  obtain ⟨cs, hcs⟩ : ∃ cs, cs = checkS pl dry s := ⟨_, rfl⟩
  have hx : (decide (true = true)) = true := rfl
  go_enter Try.func5, Try.ntmps5
  go_wp2_with fail
  rw [← hW0]
  replace hW0 := Lib.hid hW0
  replace hck := Lib.hid hck
  replace hcs := Lib.hid hcs
  go_wp2_with (first | (go_at_call 16; refine (great_any _ _ pl _ _ (h.below hF0.out.below)).mono ?_; rintro e w1 ⟨⟨b, rfl, hgr⟩, hb1⟩; have hF1 := Lib.hid (hF0.out.later hb1); obtain ⟨k0, k1, k2, k3, k4, k5⟩ := six_cells hF1.out.store; obtain ⟨f1, f2⟩ := hF1.out.cells) | (go_at_call 22; refine (wide_any s _ (hs.below hF1.out.below)).mono ?_; rintro e w2 ⟨⟨b2, rfl, hwd⟩, hb2⟩; have hF2 := Lib.hid (hF1.out.later hb2); obtain ⟨f3, f4⟩ := hF2.out.cells) | (go_at_call 17; refine (lives_any _).mono ?_; rintro e wL ⟨rfl, hbL⟩) | (go_at_call 23; refine (new_any A c pl dry _ (h.below hF2.out.below)).mono ?_; rintro e w3 ⟨t, rfl, ht, hst, hb3⟩; rw [← hck.out]; have hF3 := Lib.hid (hF2.out.later hb3); obtain ⟨f5, f6⟩ := hF3.out.cells; have y3 : w.heap.size < w3.heap.size := (by have := hF3.out.size; omega); have hF3a := Lib.hid (hF3.out.later ((Below.refl _ w3).alloc (Nat.le_refl _) (.cells (storeCells t) 43)))) | (go_at_call 24; refine (rnew_any A c pl dry _ (h.below hF3a.out.below)).mono ?_; rintro e w4 ⟨u, rfl, hu, hsu, hb4⟩; rw [← hck.out]; have hX := Lib.hid (CX.make hF3.out ht hb4 hu)))
  · go_ret
    exact ⟨rfl, (hF1.out.later hbL).below⟩
  · go_ret
    exact ⟨rfl, (hF2.out.later hbL).below⟩
  · obtain ⟨w1b, w2b, w3b, _, _, w6b⟩ := hwd (by first | rfl | assumption | simp_all)
    have hsame := Lib.hid (SameS.trans' hst hsu)
    have hh : ∀ x ∈ s.heaps, x.parts.length ≤ 1000000 := fun x hx => Nat.le_trans (w6b x hx) (by decide)
    have c25 : ∀ W, CX w A c pl dry s t u w3.heap.size w4.heap.size W → Calls Try.prog 25 #[.agg #[.slice A pl.length c, .int .i64 dry]] W fun e w' => e = .returned (.int .i64 ck) ∧ Below W.heap.size W w' := fun W hW => hck.out ▸ check_any A c pl dry W (h.below hW.below)
    have c26 : ∀ W, CX w A c pl dry s t u w3.heap.size w4.heap.size W → Calls Try.prog 26 #[.agg #[.slice A pl.length c, .int .i64 dry]] W fun e w' => e = .returned (.int .i64 ck) ∧ Below W.heap.size W w' := fun W hW => hck.out ▸ rcheck_any A c pl dry W (h.below hW.below)
    have c27 : ∀ W, CX w A c pl dry s t u w3.heap.size w4.heap.size W → Calls Try.prog 27 #[storeVal t, storeVal u] W fun e w' => e = .returned (.bool true) ∧ Below W.heap.size W w' := fun W hW => sameStore_any t u W hW.rt hW.ru hsame.out
    have c28 : ∀ W, CX w A c pl dry s t u w3.heap.size w4.heap.size W → Calls Try.prog 28 #[.agg #[.slice A pl.length c, .int .i64 dry], storeVal s] W fun e w' => e = .returned (.int .i64 cs) ∧ Below W.heap.size W w' := fun W hW => hcs.out ▸ checkStore_any A c pl dry s W (h.below hW.below) (hs.below hW.below) (by omega) (by omega) hh
    have c29 : ∀ W, CX w A c pl dry s t u w3.heap.size w4.heap.size W → Calls Try.prog 29 #[.agg #[.slice A pl.length c, .int .i64 dry], storeVal s] W fun e w' => e = .returned (.int .i64 cs) ∧ Below W.heap.size W w' := fun W hW => hcs.out ▸ rcheckStore_any A c pl dry s W (h.below hW.below) (hs.below hW.below) (by omega) (by omega) hh
    have c17 : ∀ W, CX w A c pl dry s t u w3.heap.size w4.heap.size W → Calls Try.prog 17 #[] W fun e w' => e = .returned (.bool true) ∧ Below W.heap.size W w' := fun W _ => lives_any W
    have S0d : CX w A c pl dry s t u w3.heap.size w4.heap.size (w4.alloc (.cells (storeCells u) 43)).drew := hX.out.later ((Below.refl _ _).drew)
    have S0 := Lib.hid S0d.held
    replace c25 := Lib.hid c25
    replace c26 := Lib.hid c26
    replace c27 := Lib.hid c27
    replace c28 := Lib.hid c28
    replace c29 := Lib.hid c29
    replace c17 := Lib.hid c17
    clear k0 k1 k2 k3 k4 k5 f1 f2 f3 f4 f5 f6 y3 d1 d2 hz0 hz1 hgr hwd
    go_region_held3 (fun wr => wr.cell? ⟨w.heap.size, 0, none⟩ = some (.slice A pl.length c) ∧ wr.cell? ⟨w.heap.size, 1, none⟩ = some (.int .i64 dry) ∧ wr.cell? ⟨w.heap.size + 1, 0, none⟩ = some (.int .i64 s.year) ∧ wr.cell? ⟨w.heap.size + 1, 1, none⟩ = some (.slice s.la s.last.length s.lc) ∧ wr.cell? ⟨w.heap.size + 1, 2, none⟩ = some (.slice s.ga s.given.length s.gc) ∧ wr.cell? ⟨w.heap.size + 1, 3, none⟩ = some (.slice s.ha s.heaps.length s.hc) ∧ wr.cell? ⟨w.heap.size + 1, 4, none⟩ = some (.slice s.ua s.used.length s.uc) ∧ wr.cell? ⟨w.heap.size + 1, 5, none⟩ = some (.slice s.wa s.waste.length s.wc) ∧ wr.cell? ⟨w3.heap.size, 0, none⟩ = some (.int .i64 t.year) ∧ wr.cell? ⟨w3.heap.size, 1, none⟩ = some (.slice t.la t.last.length t.lc) ∧ wr.cell? ⟨w3.heap.size, 2, none⟩ = some (.slice t.ga t.given.length t.gc) ∧ wr.cell? ⟨w3.heap.size, 3, none⟩ = some (.slice t.ha t.heaps.length t.hc) ∧ wr.cell? ⟨w3.heap.size, 4, none⟩ = some (.slice t.ua t.used.length t.uc) ∧ wr.cell? ⟨w3.heap.size, 5, none⟩ = some (.slice t.wa t.waste.length t.wc) ∧ wr.cell? ⟨w4.heap.size, 0, none⟩ = some (.int .i64 u.year) ∧ wr.cell? ⟨w4.heap.size, 1, none⟩ = some (.slice u.la u.last.length u.lc) ∧ wr.cell? ⟨w4.heap.size, 2, none⟩ = some (.slice u.ga u.given.length u.gc) ∧ wr.cell? ⟨w4.heap.size, 3, none⟩ = some (.slice u.ha u.heaps.length u.hc) ∧ wr.cell? ⟨w4.heap.size, 4, none⟩ = some (.slice u.ua u.used.length u.uc) ∧ wr.cell? ⟨w4.heap.size, 5, none⟩ = some (.slice u.wa u.waste.length u.wc) ∧ CX w A c pl dry s t u w3.heap.size w4.heap.size wr) (first | (with_reducible exact S0.out) | (with_reducible assumption) | (with_reducible exact (CX.later (by assumption) (by assumption)).held) | (with_reducible exact (by assumption : CX w A c pl dry s t u w3.heap.size w4.heap.size _).held)) (first | (go_at_call 25; (with_reducible refine (c25.out _ (by assumption)).mono ?_); rintro e w5 ⟨rfl, hb5⟩; have h5 : CX w A c pl dry s t u w3.heap.size w4.heap.size w5 := CX.later (by assumption) hb5) | (go_at_call 26; (with_reducible refine (c26.out _ (by assumption)).mono ?_); rintro e w6 ⟨rfl, hb6⟩; have h6 : CX w A c pl dry s t u w3.heap.size w4.heap.size w6 := CX.later (by assumption) hb6) | (go_at_call 27; (with_reducible refine (c27.out _ (by assumption)).mono ?_); rintro e w7 ⟨rfl, hb7⟩; have h7 : CX w A c pl dry s t u w3.heap.size w4.heap.size w7 := CX.later (by assumption) hb7) | (go_at_call 28; (with_reducible refine (c28.out _ (by assumption)).mono ?_); rintro e w8 ⟨rfl, hb8⟩; have h8 : CX w A c pl dry s t u w3.heap.size w4.heap.size w8 := CX.later (by assumption) hb8) | (go_at_call 29; (with_reducible refine (c29.out _ (by assumption)).mono ?_); rintro e w9 ⟨rfl, hb9⟩; have h9 : CX w A c pl dry s t u w3.heap.size w4.heap.size w9 := CX.later (by assumption) hb9) | (go_at_call 17; (with_reducible refine (c17.out _ (by assumption)).mono ?_); rintro e w10 ⟨rfl, hb10⟩; have h10 : CX w A c pl dry s t u w3.heap.size w4.heap.size w10 := CX.later (by assumption) hb10))
    go_wp2
    go_ret
    exact ⟨rfl, h10.below⟩
end Go.Proofs.Ytpgkhlpepckfgaa
