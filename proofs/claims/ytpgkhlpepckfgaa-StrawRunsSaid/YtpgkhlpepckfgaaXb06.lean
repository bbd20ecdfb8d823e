/-
  What Do of the specification does, whole: walked.
-/
import Derived.Test.YtpgkhlpepckfgaaXb00
import Derived.Test.YtpgkhlpepckfgaaXb05
set_option linter.all false
set_option linter.unusedVariables false
set_option linter.unusedSimpArgs false
namespace Go.Proofs.Ytpgkhlpepckfgaa
open Go.RowKit Go.Lib

/-- The farm, the store, the chore, the result. -/
structure ReX (w : World) (A : Option Addr) (c : Nat) (pl : List Plot) (dry : Int) (s : Store) (a : Chore) (W : World) : Prop where
  below : Below w.heap.size w W
  farm : W.heap[w.heap.size]? = some (.cells #[.slice A pl.length c, .int .i64 dry] 24 (0, 0))
  store : W.heap[w.heap.size + 1]? = some (.cells (storeCells s) 43 (0, 0))
  chore : W.heap[w.heap.size + 1 + 1]? = some (.cells (choreCells a) 64 (0, 0))
  out : W.heap[w.heap.size + 1 + 1 + 1]? = some (.cells emptyC 43 (0, 0))
  size : w.heap.size + 4 ≤ W.heap.size
section
variable {w : World} {A : Option Addr} {c : Nat} {pl : List Plot} {dry : Int} {s : Store} {a : Chore} {W W' : World}
theorem ReX.make : ReX w A c pl dry s a (RXw w A c pl dry a s) := by
  refine ⟨(((((Below.refl _ w).alloc (Nat.le_refl _) _).alloc (by simp) _).alloc (by simp; omega) _).alloc (by simp; omega) _), ?_, ?_, ?_, ?_, by simp⟩
  · exact heap_old _ _ _ _ (heap_old _ _ _ _ (heap_old _ _ _ _ (heap_new _ _ _ rfl)))
  · exact heap_old _ _ _ _ (heap_old _ _ _ _ (heap_new _ _ _ (by simp)))
  · exact heap_old _ _ _ _ (heap_new _ _ _ (by simp))
  · exact heap_new _ _ _ (by simp)
theorem ReX.kept (h : ReX w A c pl dry s a W) (hb : Below w.heap.size w W') (hz : W.heap.size ≤ W'.heap.size) (hk : ∀ k, k < w.heap.size + 4 → W'.heap[k]? = W.heap[k]?) : ReX w A c pl dry s a W' :=
  ⟨hb, (hk _ (by omega)).trans h.farm, (hk _ (by omega)).trans h.store, (hk _ (by omega)).trans h.chore, (hk _ (by omega)).trans h.out, Nat.le_trans h.size hz⟩
theorem ReX.later (h : ReX w A c pl dry s a W) (hb : Below W.heap.size W W') : ReX w A c pl dry s a W' := by
  have hz := h.size
  exact h.kept (h.below.trans (hb.mono h.below.size)) hb.size fun k hk => hb.block k (by omega)
/-- An error is handed back, with a store of nothing. -/
theorem ReX.wrong (h : ReX w A c pl dry s a W) {r : Int × Store} (hr : r.2 = noStore) {fn : Func} {p q : Tmp} (hf : fn.results = #[.cell p 43, .tmp q]) {tmps : Array Value} (hp : tmps.getD p undef = ptr (w.heap.size + 1 + 1 + 1)) (hq : tmps.getD q undef = .int .i64 r.1) :
    bodyPost Try.prog fn (DoOut r w) .ret { tmps := tmps, defers := [] } ((((((W.setCell ⟨w.heap.size + 1 + 1 + 1, 0, none⟩ (.int .i64 0)).setCell ⟨w.heap.size + 1 + 1 + 1, 1, none⟩ (.slice none 0 0)).setCell ⟨w.heap.size + 1 + 1 + 1, 2, none⟩ (.slice none 0 0)).setCell ⟨w.heap.size + 1 + 1 + 1, 3, none⟩ (.slice none 0 0)).setCell ⟨w.heap.size + 1 + 1 + 1, 4, none⟩ (.slice none 0 0)).setCell ⟨w.heap.size + 1 + 1 + 1, 5, none⟩ (.slice none 0 0)) := by
  refine bodyPost_ret (ret_store hf hp hq (set6 _ _ _ _ _ _ h.out)) rfl ?_
  exact ⟨noStore, rfl, hr ▸ SameC.refl _, rd_noStore _, set6_below _ _ _ _ _ _ h.below (by omega), fresh_none _⟩
/-- The store is another one now. -/
theorem ReX.change (h : ReX w A c pl dry s a W) (t : Store) : ReX w A c pl dry t a ((((((W.setCell ⟨w.heap.size + 1, 0, none⟩ (.int .i64 t.year)).setCell ⟨w.heap.size + 1, 1, none⟩ (.slice t.la t.last.length t.lc)).setCell ⟨w.heap.size + 1, 2, none⟩ (.slice t.ga t.given.length t.gc)).setCell ⟨w.heap.size + 1, 3, none⟩ (.slice t.ha t.heaps.length t.hc)).setCell ⟨w.heap.size + 1, 4, none⟩ (.slice t.ua t.used.length t.uc)).setCell ⟨w.heap.size + 1, 5, none⟩ (.slice t.wa t.waste.length t.wc)) := by
  refine ⟨set6_below _ _ _ _ _ _ h.below (by omega), (set6_other _ _ _ _ _ _ (by omega)).trans h.farm, set6 _ _ _ _ _ _ h.store, (set6_other _ _ _ _ _ _ (by omega)).trans h.chore, (set6_other _ _ _ _ _ _ (by omega)).trans h.out, ?_⟩
  rw [set_size, set_size, set_size, set_size, set_size, set_size]
  exact h.size
/-- The rows of a new store are apart from the cells of the old one. -/
theorem ReX.off (h : ReX w A c pl dry s a W) {t : Store} {B : Nat} (hB : w.heap.size + 4 ≤ B) (hR : Rows B none t W) : ∀ k, Lies t k → k ≠ w.heap.size + 1 := fun k hk => by
  have ho := h.store
  rcases hk with e | e | e | e
  · have := (hR.lastLt e).1; omega
  · have := (hR.givenLt e).1; omega
  · have := (hR.heapsLt e).1; omega
  · exact hR.apart6 (c1 := (s.la, s.last.length, s.lc)) (c2 := (s.ga, s.given.length, s.gc)) (c3 := (s.ha, s.heaps.length, s.hc)) (c4 := (s.ua, s.used.length, s.uc)) (c5 := (s.wa, s.waste.length, s.wc)) ho e
/-- A store is handed back. -/
theorem ReX.right (h : ReX w A c pl dry s a W) {t : Store} {r : Int × Store} (hs : SameC t r.2) {B : Nat} (hB : w.heap.size + 4 ≤ B) (hR : Rows B none t W) {fn : Func} {p q : Tmp} (hf : fn.results = #[.cell p 43, .tmp q]) {tmps : Array Value} (hp : tmps.getD p undef = ptr (w.heap.size + 1 + 1 + 1)) (hq : tmps.getD q undef = .int .i64 r.1) :
    bodyPost Try.prog fn (DoOut r w) .ret { tmps := tmps, defers := [] } ((((((W.setCell ⟨w.heap.size + 1 + 1 + 1, 0, none⟩ (.int .i64 t.year)).setCell ⟨w.heap.size + 1 + 1 + 1, 1, none⟩ (.slice t.la t.last.length t.lc)).setCell ⟨w.heap.size + 1 + 1 + 1, 2, none⟩ (.slice t.ga t.given.length t.gc)).setCell ⟨w.heap.size + 1 + 1 + 1, 3, none⟩ (.slice t.ha t.heaps.length t.hc)).setCell ⟨w.heap.size + 1 + 1 + 1, 4, none⟩ (.slice t.ua t.used.length t.uc)).setCell ⟨w.heap.size + 1 + 1 + 1, 5, none⟩ (.slice t.wa t.waste.length t.wc)) := by
  have ho := h.out
  have hz := h.size
  refine bodyPost_ret (ret_store hf hp hq (set6 _ _ _ _ _ _ h.out)) rfl ?_
  refine ⟨t, rfl, hs, (hR.put6 (by omega) (fun k hk => ?_) _ _ _ _ _ _).store, set6_below _ _ _ _ _ _ h.below (by omega), hR.fresh (by omega)⟩
  rcases hk with e | e | e | e
  · have := (hR.lastLt e).1; omega
  · have := (hR.givenLt e).1; omega
  · have := (hR.heapsLt e).1; omega
  · exact hR.apart6 (c1 := (none, 0, 0)) (c2 := (none, 0, 0)) (c3 := (none, 0, 0)) (c4 := (none, 0, 0)) (c5 := (none, 0, 0)) ho e
end

set_option maxHeartbeats 2000000 in
set_option maxRecDepth 100000 in
theorem rdo_any (A : Option Addr) (c : Nat) (pl : List Plot) (dry : Int) (s : Store) (a : Chore) (w : World) (h : RdPlots w A pl) (hs : RdStore w s) (hu : s.used.length ≤ 1000000) (hw : s.waste.length ≤ 1000000) (hh : ∀ x ∈ s.heaps, x.parts.length ≤ 1000000)
    (ho1 : a.name.size ≤ 140737488351232) (ho2 : a.other.size ≤ 140737488351232) :
    Calls Try.prog 36 #[.agg #[.slice A pl.length c, .int .i64 dry], storeVal s, choreVal a] w (DoOut (doP pl dry s a) w) := by
  obtain ⟨W0, hW0⟩ : ∃ W0, W0 = RXw w A c pl dry a s := ⟨_, rfl⟩
  have hX0 : ReX w A c pl dry s a W0 := by rw [hW0]; exact ReX.make
  unfold RXw at hW0
  have hck : Hid (Calls Try.prog 29 #[.agg #[.slice A pl.length c, .int .i64 dry], storeVal s] W0 fun e w' => e = .returned (.int .i64 (checkS pl dry s)) ∧ Below W0.heap.size W0 w') := rcheckStore_any A c pl dry s W0 (h.below hX0.below) (hs.below hX0.below) hu hw hh
  have hgd : checkS pl dry s = 0 → DoG pl dry s := fun e => good_do e hu hw hh
  obtain ⟨ck, hckE⟩ : ∃ ck, ck = checkS pl dry s := ⟨_, rfl⟩
  rw [← hckE] at hck hgd
  replace hX0 := Lib.hid hX0
  replace hckE := Lib.hid hckE
  have hfz : Hid (∀ W, ReX w A c pl dry s a W → ∀ j, W.frozen? ⟨w.heap.size + 1 + 1 + 1, j, none⟩ = false) := fun W h j => frozen_of_row W _ j _ _ h.out
  by_cases h0 : ck = 0
  · have hG := hgd h0
    subst h0
    have h0b : ((0 : Int) != 0) = false := rfl
    replace hgd := Lib.hid hG
    clear hG
    go_enter Try.func36, Try.ntmps36
    go_upto_region 1 with fail
    rw [← hW0]
    replace hW0 := Lib.hid hW0
    obtain ⟨p0, p1⟩ := cells2 hX0.out.farm
    obtain ⟨k0, k1, k2, k3, k4, k5⟩ := six_cells hX0.out.store
    go_upto_region 2 with fail
    clear p0 p1 k0 k1 k2 k3 k4 k5
    go_at_call 29
    (with_reducible refine hck.out.mono ?_)
    rintro e w1 ⟨rfl, hb1⟩
    have hX1 := Lib.hid (hX0.out.later hb1)
    clear hX0 hck hb1
    go_upto_region 4 with fail
--A
    have hS := Lib.hid (fun W (h : ReX w A c pl dry s a W) => And.intro (cells2 h.farm) (And.intro (six_cells h.store) (nine_cells2 h.chore)))
    by_cases hk1 : a.kind < 1
    · have hr : Hid (doP pl dry s a = (1, noStore)) := by unfold Hid doP; rw [← hckE.out, if_neg (by decide), if_pos (by omega)]
      have b1 : decide (a.kind < 1) = true := decide_eq_true hk1
      replace hk1 := Lib.hid hk1
      have hXd0 := Lib.hid (hX1.out.later (below_drewN_ w1 1))
      refine wp_region_tree (fun W => ReX w A c pl dry s a W) (.pure 0 (.read 1 (.pure 2 (.pure 3 (.pure 4 (.read 5 (.pure 6 (.one 7 (.pure 8 (.read 9 (.read 11 (.one 10 (.pure 12 (.one 13 .done)))))))))))))) [] (by kernel_rfl) (by kernel_rfl) hXd0.out ?_
      obtain ⟨wd, hwd⟩ : ∃ x, x = w1.drew := ⟨_, rfl⟩
      have hXd : Hid (ReX w A c pl dry s a wd) := by rw [hwd]; exact hXd0.out
      rw [← hwd]
      clear hXd0 hwd
      refine wpTree_pure (v := ?_) rfl (by rfl) ?_ (fun _ _ _ h => h) ?_
      rotate_left
      focus (intro w'; (try simp only [List.getElem_toArray, List.getElem_cons_zero, List.getElem_cons_succ]); go_simp; try with_reducible rfl)
      simp only [List.getElem_toArray, List.getElem_cons_zero, List.getElem_cons_succ, Act.put, List.setIfInBounds_toArray, List.set_cons_zero, List.set_cons_succ]
      refine wpTree_take (v := ?_) rfl (by rfl) ?_ (fun _ _ _ h => h) ?_
      rotate_left
      focus (intro w' hSw; obtain ⟨⟨p0, p1⟩, ⟨k0, k1, k2, k3, k4, k5⟩, c0, c1, c2, c3, c4, c5, c6, c7, c8⟩ := hS.out _ hSw; clear hSw; (try simp only [List.getElem_toArray, List.getElem_cons_zero, List.getElem_cons_succ]); go_simp; try with_reducible rfl)
      simp only [List.getElem_toArray, List.getElem_cons_zero, List.getElem_cons_succ, Act.put, List.setIfInBounds_toArray, List.set_cons_zero, List.set_cons_succ]
      refine wpTree_pure (v := ?_) rfl (by rfl) ?_ (fun _ _ _ h => h) ?_
      rotate_left
      focus (intro w'; (try simp only [List.getElem_toArray, List.getElem_cons_zero, List.getElem_cons_succ]); go_simp; try with_reducible rfl)
      simp only [List.getElem_toArray, List.getElem_cons_zero, List.getElem_cons_succ, Act.put, List.setIfInBounds_toArray, List.set_cons_zero, List.set_cons_succ]
      refine wpTree_pure (v := ?_) rfl (by rfl) ?_ (fun _ _ _ h => h) ?_
      rotate_left
      focus (intro w'; (try simp only [List.getElem_toArray, List.getElem_cons_zero, List.getElem_cons_succ]); go_simp; try with_reducible rfl)
      simp only [List.getElem_toArray, List.getElem_cons_zero, List.getElem_cons_succ, Act.put, List.setIfInBounds_toArray, List.set_cons_zero, List.set_cons_succ]
      refine wpTree_bar rfl (by rfl) (fun _ _ _ h => h) ?_
      simp only [List.getElem_toArray, List.getElem_cons_zero, List.getElem_cons_succ, Act.put, List.setIfInBounds_toArray, List.set_cons_zero, List.set_cons_succ]
      refine wpTree_barR rfl (by rfl) (fun _ _ _ h => h) ?_
      simp only [List.getElem_toArray, List.getElem_cons_zero, List.getElem_cons_succ, Act.put, List.setIfInBounds_toArray, List.set_cons_zero, List.set_cons_succ]
      refine wpTree_bar rfl (by rfl) (fun _ _ _ h => h) ?_
      simp only [List.getElem_toArray, List.getElem_cons_zero, List.getElem_cons_succ, Act.put, List.setIfInBounds_toArray, List.set_cons_zero, List.set_cons_succ]
      refine wpTree_do rfl (by rfl) ?_
      (try simp only [List.getElem_toArray, List.getElem_cons_zero, List.getElem_cons_succ])
      go_simp
      refine wpTree_pure (v := ?_) rfl (by rfl) ?_ (fun _ _ _ h => h) ?_
      rotate_left
      focus (intro w'; (try simp only [List.getElem_toArray, List.getElem_cons_zero, List.getElem_cons_succ]); go_simp; try with_reducible rfl)
      simp only [List.getElem_toArray, List.getElem_cons_zero, List.getElem_cons_succ, Act.put, List.setIfInBounds_toArray, List.set_cons_zero, List.set_cons_succ]
      refine wpTree_barR rfl (by rfl) (fun _ _ _ h => h) ?_
      simp only [List.getElem_toArray, List.getElem_cons_zero, List.getElem_cons_succ, Act.put, List.setIfInBounds_toArray, List.set_cons_zero, List.set_cons_succ]
      refine wpTree_barR rfl (by rfl) (fun _ _ _ h => h) ?_
      simp only [List.getElem_toArray, List.getElem_cons_zero, List.getElem_cons_succ, Act.put, List.setIfInBounds_toArray, List.set_cons_zero, List.set_cons_succ]
      refine wpTree_bar1 rfl (by rfl) ?_
      simp only [List.getElem_toArray, List.getElem_cons_zero, List.getElem_cons_succ, Act.put, List.setIfInBounds_toArray, List.set_cons_zero, List.set_cons_succ]
      refine wpTree_bar rfl (by rfl) (fun _ _ _ h => h) ?_
      simp only [List.getElem_toArray, List.getElem_cons_zero, List.getElem_cons_succ, Act.put, List.setIfInBounds_toArray, List.set_cons_zero, List.set_cons_succ]
      refine wpTree_do rfl (by rfl) ?_
      (try simp only [List.getElem_toArray, List.getElem_cons_zero, List.getElem_cons_succ])
      go_simp
      obtain ⟨d0, d1, d2, d3, d4, d5⟩ := cells6 hXd.out.out
      have f0 := hfz.out _ hXd.out 0
      have f1 := hfz.out _ hXd.out 1
      have f2 := hfz.out _ hXd.out 2
      have f3 := hfz.out _ hXd.out 3
      have f4 := hfz.out _ hXd.out 4
      have f5 := hfz.out _ hXd.out 5
      unfold wpTree
      go_wp2_with fail
      rw [hr.out]
      exact hXd.out.wrong (r := (1, noStore)) rfl Try.results36 rfl rfl
    have b1 : decide (a.kind < 1) = false := decide_eq_false hk1
    by_cases hk8 : 8 < a.kind
    · have hr : Hid (doP pl dry s a = (1, noStore)) := by unfold Hid doP; rw [← hckE.out, if_neg (by decide), if_pos (by omega)]
      have b2 : decide (8 < a.kind) = true := decide_eq_true hk8
      replace hk8 := Lib.hid hk8
      replace hk1 := Lib.hid hk1
      have hXd0 := Lib.hid (hX1.out.later (below_drewN_ w1 1))
      refine wp_region_tree (fun W => ReX w A c pl dry s a W) (.pure 0 (.read 1 (.pure 2 (.pure 3 (.pure 4 (.read 5 (.pure 6 (.one 7 (.pure 8 (.read 9 (.read 11 (.one 10 (.pure 12 (.one 13 .done)))))))))))))) [] (by kernel_rfl) (by kernel_rfl) hXd0.out ?_
      obtain ⟨wd, hwd⟩ : ∃ x, x = w1.drew := ⟨_, rfl⟩
      have hXd : Hid (ReX w A c pl dry s a wd) := by rw [hwd]; exact hXd0.out
      rw [← hwd]
      clear hXd0 hwd
      refine wpTree_pure (v := ?_) rfl (by rfl) ?_ (fun _ _ _ h => h) ?_
      rotate_left
      focus (intro w'; (try simp only [List.getElem_toArray, List.getElem_cons_zero, List.getElem_cons_succ]); go_simp; try with_reducible rfl)
      simp only [List.getElem_toArray, List.getElem_cons_zero, List.getElem_cons_succ, Act.put, List.setIfInBounds_toArray, List.set_cons_zero, List.set_cons_succ]
      refine wpTree_take (v := ?_) rfl (by rfl) ?_ (fun _ _ _ h => h) ?_
      rotate_left
      focus (intro w' hSw; obtain ⟨⟨p0, p1⟩, ⟨k0, k1, k2, k3, k4, k5⟩, c0, c1, c2, c3, c4, c5, c6, c7, c8⟩ := hS.out _ hSw; clear hSw; (try simp only [List.getElem_toArray, List.getElem_cons_zero, List.getElem_cons_succ]); go_simp; try with_reducible rfl)
      simp only [List.getElem_toArray, List.getElem_cons_zero, List.getElem_cons_succ, Act.put, List.setIfInBounds_toArray, List.set_cons_zero, List.set_cons_succ]
      refine wpTree_pure (v := ?_) rfl (by rfl) ?_ (fun _ _ _ h => h) ?_
      rotate_left
      focus (intro w'; (try simp only [List.getElem_toArray, List.getElem_cons_zero, List.getElem_cons_succ]); go_simp; try with_reducible rfl)
      simp only [List.getElem_toArray, List.getElem_cons_zero, List.getElem_cons_succ, Act.put, List.setIfInBounds_toArray, List.set_cons_zero, List.set_cons_succ]
      refine wpTree_pure (v := ?_) rfl (by rfl) ?_ (fun _ _ _ h => h) ?_
      rotate_left
      focus (intro w'; (try simp only [List.getElem_toArray, List.getElem_cons_zero, List.getElem_cons_succ]); go_simp; try with_reducible rfl)
      simp only [List.getElem_toArray, List.getElem_cons_zero, List.getElem_cons_succ, Act.put, List.setIfInBounds_toArray, List.set_cons_zero, List.set_cons_succ]
      refine wpTree_pure (v := ?_) rfl (by rfl) ?_ (fun _ _ _ h => h) ?_
      rotate_left
      focus (intro w'; (try simp only [List.getElem_toArray, List.getElem_cons_zero, List.getElem_cons_succ]); go_simp; try with_reducible rfl)
      simp only [List.getElem_toArray, List.getElem_cons_zero, List.getElem_cons_succ, Act.put, List.setIfInBounds_toArray, List.set_cons_zero, List.set_cons_succ]
      refine wpTree_take (v := ?_) rfl (by rfl) ?_ (fun _ _ _ h => h) ?_
      rotate_left
      focus (intro w' hSw; obtain ⟨⟨p0, p1⟩, ⟨k0, k1, k2, k3, k4, k5⟩, c0, c1, c2, c3, c4, c5, c6, c7, c8⟩ := hS.out _ hSw; clear hSw; (try simp only [List.getElem_toArray, List.getElem_cons_zero, List.getElem_cons_succ]); go_simp; try with_reducible rfl)
      simp only [List.getElem_toArray, List.getElem_cons_zero, List.getElem_cons_succ, Act.put, List.setIfInBounds_toArray, List.set_cons_zero, List.set_cons_succ]
      refine wpTree_pure (v := ?_) rfl (by rfl) ?_ (fun _ _ _ h => h) ?_
      rotate_left
      focus (intro w'; (try simp only [List.getElem_toArray, List.getElem_cons_zero, List.getElem_cons_succ]); go_simp; try with_reducible rfl)
      simp only [List.getElem_toArray, List.getElem_cons_zero, List.getElem_cons_succ, Act.put, List.setIfInBounds_toArray, List.set_cons_zero, List.set_cons_succ]
      refine wpTree_do rfl (by rfl) ?_
      (try simp only [List.getElem_toArray, List.getElem_cons_zero, List.getElem_cons_succ])
      go_simp
      refine wpTree_pure (v := ?_) rfl (by rfl) ?_ (fun _ _ _ h => h) ?_
      rotate_left
      focus (intro w'; (try simp only [List.getElem_toArray, List.getElem_cons_zero, List.getElem_cons_succ]); go_simp; try with_reducible rfl)
      simp only [List.getElem_toArray, List.getElem_cons_zero, List.getElem_cons_succ, Act.put, List.setIfInBounds_toArray, List.set_cons_zero, List.set_cons_succ]
      refine wpTree_barR rfl (by rfl) (fun _ _ _ h => h) ?_
      simp only [List.getElem_toArray, List.getElem_cons_zero, List.getElem_cons_succ, Act.put, List.setIfInBounds_toArray, List.set_cons_zero, List.set_cons_succ]
      refine wpTree_barR rfl (by rfl) (fun _ _ _ h => h) ?_
      simp only [List.getElem_toArray, List.getElem_cons_zero, List.getElem_cons_succ, Act.put, List.setIfInBounds_toArray, List.set_cons_zero, List.set_cons_succ]
      refine wpTree_bar1 rfl (by rfl) ?_
      simp only [List.getElem_toArray, List.getElem_cons_zero, List.getElem_cons_succ, Act.put, List.setIfInBounds_toArray, List.set_cons_zero, List.set_cons_succ]
      refine wpTree_bar rfl (by rfl) (fun _ _ _ h => h) ?_
      simp only [List.getElem_toArray, List.getElem_cons_zero, List.getElem_cons_succ, Act.put, List.setIfInBounds_toArray, List.set_cons_zero, List.set_cons_succ]
      refine wpTree_do rfl (by rfl) ?_
      (try simp only [List.getElem_toArray, List.getElem_cons_zero, List.getElem_cons_succ])
      go_simp
      obtain ⟨d0, d1, d2, d3, d4, d5⟩ := cells6 hXd.out.out
      have f0 := hfz.out _ hXd.out 0
      have f1 := hfz.out _ hXd.out 1
      have f2 := hfz.out _ hXd.out 2
      have f3 := hfz.out _ hXd.out 3
      have f4 := hfz.out _ hXd.out 4
      have f5 := hfz.out _ hXd.out 5
      unfold wpTree
      go_wp2_with fail
      rw [hr.out]
      exact hXd.out.wrong (r := (1, noStore)) rfl Try.results36 rfl rfl
    have b2 : decide (8 < a.kind) = false := decide_eq_false hk8
    have hkk : Hid (1 ≤ a.kind ∧ a.kind ≤ 8) := by unfold Hid; omega
    clear hk1 hk8
    have hXd0 := Lib.hid (hX1.out.later (below_drewN_ w1 1))
    refine wp_region_tree (fun W => ReX w A c pl dry s a W) (.pure 0 (.read 1 (.pure 2 (.pure 3 (.pure 4 (.read 5 (.pure 6 (.one 7 (.pure 8 (.read 9 (.read 11 (.one 10 (.pure 12 (.one 13 .done)))))))))))))) [] (by kernel_rfl) (by kernel_rfl) hXd0.out ?_
    obtain ⟨wd, hwd⟩ : ∃ x, x = w1.drew := ⟨_, rfl⟩
    have hXd : Hid (ReX w A c pl dry s a wd) := by rw [hwd]; exact hXd0.out
    rw [← hwd]
    clear hXd0 hwd
    refine wpTree_pure (v := ?_) rfl (by rfl) ?_ (fun _ _ _ h => h) ?_
    rotate_left
    focus (intro w'; (try simp only [List.getElem_toArray, List.getElem_cons_zero, List.getElem_cons_succ]); go_simp; try with_reducible rfl)
    simp only [List.getElem_toArray, List.getElem_cons_zero, List.getElem_cons_succ, Act.put, List.setIfInBounds_toArray, List.set_cons_zero, List.set_cons_succ]
    refine wpTree_take (v := ?_) rfl (by rfl) ?_ (fun _ _ _ h => h) ?_
    rotate_left
    focus (intro w' hSw; obtain ⟨⟨p0, p1⟩, ⟨k0, k1, k2, k3, k4, k5⟩, c0, c1, c2, c3, c4, c5, c6, c7, c8⟩ := hS.out _ hSw; clear hSw; (try simp only [List.getElem_toArray, List.getElem_cons_zero, List.getElem_cons_succ]); go_simp; try with_reducible rfl)
    simp only [List.getElem_toArray, List.getElem_cons_zero, List.getElem_cons_succ, Act.put, List.setIfInBounds_toArray, List.set_cons_zero, List.set_cons_succ]
    refine wpTree_pure (v := ?_) rfl (by rfl) ?_ (fun _ _ _ h => h) ?_
    rotate_left
    focus (intro w'; (try simp only [List.getElem_toArray, List.getElem_cons_zero, List.getElem_cons_succ]); go_simp; try with_reducible rfl)
    simp only [List.getElem_toArray, List.getElem_cons_zero, List.getElem_cons_succ, Act.put, List.setIfInBounds_toArray, List.set_cons_zero, List.set_cons_succ]
    refine wpTree_pure (v := ?_) rfl (by rfl) ?_ (fun _ _ _ h => h) ?_
    rotate_left
    focus (intro w'; (try simp only [List.getElem_toArray, List.getElem_cons_zero, List.getElem_cons_succ]); go_simp; try with_reducible rfl)
    simp only [List.getElem_toArray, List.getElem_cons_zero, List.getElem_cons_succ, Act.put, List.setIfInBounds_toArray, List.set_cons_zero, List.set_cons_succ]
    refine wpTree_pure (v := ?_) rfl (by rfl) ?_ (fun _ _ _ h => h) ?_
    rotate_left
    focus (intro w'; (try simp only [List.getElem_toArray, List.getElem_cons_zero, List.getElem_cons_succ]); go_simp; try with_reducible rfl)
    simp only [List.getElem_toArray, List.getElem_cons_zero, List.getElem_cons_succ, Act.put, List.setIfInBounds_toArray, List.set_cons_zero, List.set_cons_succ]
    refine wpTree_take (v := ?_) rfl (by rfl) ?_ (fun _ _ _ h => h) ?_
    rotate_left
    focus (intro w' hSw; obtain ⟨⟨p0, p1⟩, ⟨k0, k1, k2, k3, k4, k5⟩, c0, c1, c2, c3, c4, c5, c6, c7, c8⟩ := hS.out _ hSw; clear hSw; (try simp only [List.getElem_toArray, List.getElem_cons_zero, List.getElem_cons_succ]); go_simp; try with_reducible rfl)
    simp only [List.getElem_toArray, List.getElem_cons_zero, List.getElem_cons_succ, Act.put, List.setIfInBounds_toArray, List.set_cons_zero, List.set_cons_succ]
    refine wpTree_pure (v := ?_) rfl (by rfl) ?_ (fun _ _ _ h => h) ?_
    rotate_left
    focus (intro w'; (try simp only [List.getElem_toArray, List.getElem_cons_zero, List.getElem_cons_succ]); go_simp; try with_reducible rfl)
    simp only [List.getElem_toArray, List.getElem_cons_zero, List.getElem_cons_succ, Act.put, List.setIfInBounds_toArray, List.set_cons_zero, List.set_cons_succ]
    refine wpTree_do rfl (by rfl) ?_
    (try simp only [List.getElem_toArray, List.getElem_cons_zero, List.getElem_cons_succ])
    go_simp
    refine wpTree_pure (v := ?_) rfl (by rfl) ?_ (fun _ _ _ h => h) ?_
    rotate_left
    focus (intro w'; (try simp only [List.getElem_toArray, List.getElem_cons_zero, List.getElem_cons_succ]); go_simp; try with_reducible rfl)
    simp only [List.getElem_toArray, List.getElem_cons_zero, List.getElem_cons_succ, Act.put, List.setIfInBounds_toArray, List.set_cons_zero, List.set_cons_succ]
    refine wpTree_take (v := ?_) rfl (by rfl) ?_ (fun _ _ _ h => h) ?_
    rotate_left
    focus (intro w' hSw; obtain ⟨⟨p0, p1⟩, ⟨k0, k1, k2, k3, k4, k5⟩, c0, c1, c2, c3, c4, c5, c6, c7, c8⟩ := hS.out _ hSw; clear hSw; (try simp only [List.getElem_toArray, List.getElem_cons_zero, List.getElem_cons_succ]); go_simp; try with_reducible rfl)
    simp only [List.getElem_toArray, List.getElem_cons_zero, List.getElem_cons_succ, Act.put, List.setIfInBounds_toArray, List.set_cons_zero, List.set_cons_succ]
    refine wpTree_take (v := ?_) rfl (by rfl) ?_ (fun _ _ _ h => h) ?_
    rotate_left
    focus (intro w' hSw; obtain ⟨⟨p0, p1⟩, ⟨k0, k1, k2, k3, k4, k5⟩, c0, c1, c2, c3, c4, c5, c6, c7, c8⟩ := hS.out _ hSw; clear hSw; (try simp only [List.getElem_toArray, List.getElem_cons_zero, List.getElem_cons_succ]); go_simp; try with_reducible rfl)
    simp only [List.getElem_toArray, List.getElem_cons_zero, List.getElem_cons_succ, Act.put, List.setIfInBounds_toArray, List.set_cons_zero, List.set_cons_succ]
    refine wpTree_do rfl (by rfl) ?_
    (try simp only [List.getElem_toArray, List.getElem_cons_zero, List.getElem_cons_succ])
    go_simp
    go_at_call 77
    (with_reducible refine (named_any a wd).mono ?_)
    rintro e w2 ⟨rfl, hb2⟩
    have hX2 := Lib.hid (hXd.out.later hb2)
    obtain ⟨na, hna⟩ : ∃ x, x = namedP a := ⟨_, rfl⟩
    rw [← hna]
    have hq := neq_chore na a
    obtain ⟨sc, hsc⟩ : ∃ sc, sc = sameChore na a := ⟨_, rfl⟩
    rw [← hsc] at hq
    replace hsc := Lib.hid hsc
    replace hna := Lib.hid hna
    refine ⟨fun _ => hX2.out, ?_⟩
    clear hb2 hXd
    cases sc with
    | false =>
      have hr : Hid (doP pl dry s a = (1, noStore)) := by unfold Hid doP; rw [← hckE.out, if_neg (by decide), if_neg (by simpa using hkk.out), ← hna.out, ← hsc.out, if_pos rfl]
      refine wpTree_pure (v := ?_) rfl (by rfl) ?_ (fun _ _ _ h => h) ?_
      rotate_left
      focus (intro w'; (try simp only [List.getElem_toArray, List.getElem_cons_zero, List.getElem_cons_succ]); go_simp; try with_reducible rfl)
      simp only [List.getElem_toArray, List.getElem_cons_zero, List.getElem_cons_succ, Act.put, List.setIfInBounds_toArray, List.set_cons_zero, List.set_cons_succ]
      refine wpTree_do rfl (by rfl) ?_
      (try simp only [List.getElem_toArray, List.getElem_cons_zero, List.getElem_cons_succ])
      go_simp
      obtain ⟨d0, d1, d2, d3, d4, d5⟩ := cells6 hX2.out.out
      have f0 := hfz.out _ hX2.out 0
      have f1 := hfz.out _ hX2.out 1
      have f2 := hfz.out _ hX2.out 2
      have f3 := hfz.out _ hX2.out 3
      have f4 := hfz.out _ hX2.out 4
      have f5 := hfz.out _ hX2.out 5
      unfold wpTree
      go_wp2_with fail
      rw [hr.out]
      exact hX2.out.wrong (r := (1, noStore)) rfl Try.results36 rfl rfl
    | true =>
      refine wpTree_pure (v := ?_) rfl (by rfl) ?_ (fun _ _ _ h => h) ?_
      rotate_left
      focus (intro w'; (try simp only [List.getElem_toArray, List.getElem_cons_zero, List.getElem_cons_succ]); go_simp; try with_reducible rfl)
      simp only [List.getElem_toArray, List.getElem_cons_zero, List.getElem_cons_succ, Act.put, List.setIfInBounds_toArray, List.set_cons_zero, List.set_cons_succ]
      refine wpTree_do rfl (by rfl) ?_
      (try simp only [List.getElem_toArray, List.getElem_cons_zero, List.getElem_cons_succ])
      go_simp
      unfold wpTree
      clear hq b1 b2
      go_upto_region 6 with fail
      have hX3' := hX2.out.later (below_drewN_ w2 1)
      refine wp_region_tree (fun W => ReX w A c pl dry s a W) (.read 0 (.read 1 (.read 3 (.one 2 (.one 4 (.pure 5 (.pure 6 (.pure 7 (.one 8 (.pure 9 .done)))))))))) [8] (by kernel_rfl) (by kernel_rfl) hX3' ?_
      obtain ⟨wq, hwq⟩ : ∃ x, x = w2.drew := ⟨_, rfl⟩
      have hXq : Hid (ReX w A c pl dry s a wq) := by rw [hwq]; exact hX3'
      rw [← hwq]
      clear hX3' hwq
      have hct : Hid (Calls Try.prog 79 #[storeVal s] wq (TwinOut s wq)) := rTwin_any s wq (hs.below hXq.out.below) hgd.out.mildS
      refine wpTree_take (v := ?_) rfl (by rfl) ?_ (fun _ _ _ h => h) ?_
      rotate_left
      focus (intro w' hSw; obtain ⟨⟨p0, p1⟩, ⟨k0, k1, k2, k3, k4, k5⟩, c0, c1, c2, c3, c4, c5, c6, c7, c8⟩ := hS.out _ hSw; clear hSw; (try simp only [List.getElem_toArray, List.getElem_cons_zero, List.getElem_cons_succ]); go_simp; try with_reducible rfl)
      simp only [List.getElem_toArray, List.getElem_cons_zero, List.getElem_cons_succ, Act.put, List.setIfInBounds_toArray, List.set_cons_zero, List.set_cons_succ]
      refine wpTree_take (v := ?_) rfl (by rfl) ?_ (fun _ _ _ h => h) ?_
      rotate_left
      focus (intro w' hSw; obtain ⟨⟨p0, p1⟩, ⟨k0, k1, k2, k3, k4, k5⟩, c0, c1, c2, c3, c4, c5, c6, c7, c8⟩ := hS.out _ hSw; clear hSw; (try simp only [List.getElem_toArray, List.getElem_cons_zero, List.getElem_cons_succ]); go_simp; try with_reducible rfl)
      simp only [List.getElem_toArray, List.getElem_cons_zero, List.getElem_cons_succ, Act.put, List.setIfInBounds_toArray, List.set_cons_zero, List.set_cons_succ]
      refine wpTree_take (v := ?_) rfl (by rfl) ?_ (fun _ _ _ h => h) ?_
      rotate_left
      focus (intro w' hSw; obtain ⟨⟨p0, p1⟩, ⟨k0, k1, k2, k3, k4, k5⟩, c0, c1, c2, c3, c4, c5, c6, c7, c8⟩ := hS.out _ hSw; clear hSw; (try simp only [List.getElem_toArray, List.getElem_cons_zero, List.getElem_cons_succ]); go_simp; try with_reducible rfl)
      simp only [List.getElem_toArray, List.getElem_cons_zero, List.getElem_cons_succ, Act.put, List.setIfInBounds_toArray, List.set_cons_zero, List.set_cons_succ]
      refine wpTree_do rfl (by rfl) ?_
      (try simp only [List.getElem_toArray, List.getElem_cons_zero, List.getElem_cons_succ])
      go_simp
      go_at_call 79
      (with_reducible refine hct.out.mono ?_)
      rintro e w3 ⟨t, rfl, hst, hrt, hb3⟩
      have hX3 := Lib.hid (hXq.out.later hb3)
      refine ⟨fun _ => hX3.out, ?_⟩
      obtain ⟨B, hBe⟩ : ∃ B, B = wq.heap.size := ⟨_, rfl⟩
      have hB4 : Hid (w.heap.size + 4 ≤ B) := by unfold Hid; rw [hBe]; exact hXq.out.size
      have hdn : Hid (Calls Try.prog 78 #[.agg #[.slice A pl.length c, .int .i64 dry], storeVal t, choreVal a] w3 (RefOut B t (workP pl dry t a) w3)) := done_any B A pl c dry t a w3 (hBe ▸ hrt) (hBe ▸ hb3.size) (h.below hX3.out.below) (hst.good hgd.out) ho1 ho2 hkk.out
      replace hBe := Lib.hid hBe
      have hw2 := Lib.hid (hst.workP pl dry a)
      clear hst hrt hb3 hct hXq
      refine wpTree_do rfl (by rfl) ?_
      (try simp only [List.getElem_toArray, List.getElem_cons_zero, List.getElem_cons_succ])
      go_simp
      go_at_call 78
      (with_reducible refine hdn.out.mono ?_)
      rintro e w8 ⟨t', rfl, hb8, hr8, hk8⟩
      have hz8 : w3.heap.size ≤ w8.heap.size := hb8.size
      have hX8 : Hid (ReX w A c pl dry s a w8) := hX3.out.kept (hX3.out.below.trans (hb8.mono (by have := hB4.out; omega))) hz8 (fun k hk => hb8.block k (by have := hB4.out; omega))
      refine ⟨fun _ => hX8.out, ?_⟩
      obtain ⟨er, her⟩ : ∃ er, er = (workP pl dry t a).1 := ⟨_, rfl⟩
      rw [← her] at hr8 ⊢
      replace her := Lib.hid her
      replace hr8 := Lib.hid hr8
      replace hk8 := Lib.hid hk8
      replace hb8 := Lib.hid hb8
      clear hz8 hdn
      refine wpTree_pure (v := ?_) rfl (by rfl) ?_ (fun _ _ _ h => h) ?_
      rotate_left
      focus (intro w'; (try simp only [List.getElem_toArray, List.getElem_cons_zero, List.getElem_cons_succ]); go_simp; try with_reducible rfl)
      simp only [List.getElem_toArray, List.getElem_cons_zero, List.getElem_cons_succ, Act.put, List.setIfInBounds_toArray, List.set_cons_zero, List.set_cons_succ]
      refine wpTree_pure (v := ?_) rfl (by rfl) ?_ (fun _ _ _ h => h) ?_
      rotate_left
      focus (intro w'; (try simp only [List.getElem_toArray, List.getElem_cons_zero, List.getElem_cons_succ]); go_simp; try with_reducible rfl)
      simp only [List.getElem_toArray, List.getElem_cons_zero, List.getElem_cons_succ, Act.put, List.setIfInBounds_toArray, List.set_cons_zero, List.set_cons_succ]
      refine wpTree_pure (v := ?_) rfl (by rfl) ?_ (fun _ _ _ h => h) ?_
      rotate_left
      focus (intro w'; (try simp only [List.getElem_toArray, List.getElem_cons_zero, List.getElem_cons_succ]); go_simp; try with_reducible rfl)
      simp only [List.getElem_toArray, List.getElem_cons_zero, List.getElem_cons_succ, Act.put, List.setIfInBounds_toArray, List.set_cons_zero, List.set_cons_succ]
      obtain ⟨k0, k1, k2, k3, k4, k5⟩ := six_cells hX8.out.store
      have hfz1 : ∀ j, w8.frozen? ⟨w.heap.size + 1, j, none⟩ = false := fun j => frozen_of_row w8 _ j _ _ hX8.out.store
      have g0 := hfz1 0
      have g1 := hfz1 1
      have g2 := hfz1 2
      have g3 := hfz1 3
      have g4 := hfz1 4
      have g5 := hfz1 5
      clear hfz1
      refine wpTree_do rfl (by rfl) ?_
      (try simp only [List.getElem_toArray, List.getElem_cons_zero, List.getElem_cons_succ])
      go_simp
      refine wpTree_pure (v := ?_) rfl (by rfl) ?_ (fun _ _ _ h => h) ?_
      rotate_left
      focus (intro w'; (try simp only [List.getElem_toArray, List.getElem_cons_zero, List.getElem_cons_succ]); go_simp; try with_reducible rfl)
      simp only [List.getElem_toArray, List.getElem_cons_zero, List.getElem_cons_succ, Act.put, List.setIfInBounds_toArray, List.set_cons_zero, List.set_cons_succ]
      unfold wpTree
      obtain ⟨w9, hw9⟩ : ∃ x, x = ((((((w8.setCell ⟨w.heap.size + 1, 0, none⟩ (.int .i64 t'.year)).setCell ⟨w.heap.size + 1, 1, none⟩ (.slice t'.la t'.last.length t'.lc)).setCell ⟨w.heap.size + 1, 2, none⟩ (.slice t'.ga t'.given.length t'.gc)).setCell ⟨w.heap.size + 1, 3, none⟩ (.slice t'.ha t'.heaps.length t'.hc)).setCell ⟨w.heap.size + 1, 4, none⟩ (.slice t'.ua t'.used.length t'.uc)).setCell ⟨w.heap.size + 1, 5, none⟩ (.slice t'.wa t'.waste.length t'.wc)) := ⟨_, rfl⟩
      have hX9 : Hid (ReX w A c pl dry t' a w9) := by rw [hw9]; exact hX8.out.change t'
      have hR9 : Hid (er = 0 → SameC t' (workP pl dry t a).2 ∧ Rows B none t' w9) := fun e => by
        obtain ⟨q1, q2, _⟩ := hr8.out e
        have hz := hX8.out.size
        rw [hw9]
        exact ⟨q1, q2.put6 (by omega) (hX8.out.off hB4.out q2) _ _ _ _ _ _⟩
      rw [← hw9]
      clear k0 k1 k2 k3 k4 k5 g0 g1 g2 g3 g4 g5 hr8 hk8 hb8
      replace hw9 := Lib.hid hw9
      obtain ⟨d0, d1, d2, d3, d4, d5⟩ := cells6 hX9.out.out
      obtain ⟨k0, k1, k2, k3, k4, k5⟩ := six_cells hX9.out.store
      have hfz9 : ∀ j, w9.frozen? ⟨w.heap.size + 1 + 1 + 1, j, none⟩ = false := fun j => frozen_of_row w9 _ j _ _ hX9.out.out
      have f0 := hfz9 0
      have f1 := hfz9 1
      have f2 := hfz9 2
      have f3 := hfz9 3
      have f4 := hfz9 4
      have f5 := hfz9 5
      clear hfz9
      by_cases he : er = 0
      · obtain ⟨q1, q2⟩ := hR9.out he
        have hr : Hid (doP pl dry s a = (0, (workP pl dry s a).2)) := by unfold Hid doP; rw [← hckE.out, if_neg (by decide), if_neg (by simpa using hkk.out), ← hna.out, ← hsc.out, if_neg (by decide), if_neg (by simpa using hw2.out.1.trans (her.out.symm.trans he))]
        have b3 : (er != 0) = false := by simpa using he
        have q1' : Hid (SameC t' (workP pl dry s a).2) := q1.trans hw2.out.2.symm
        replace q2 := Lib.hid q2
        replace he := Lib.hid he
        clear q1
        go_wp2_with fail
        rw [hr.out]
        exact hX9.out.right (r := (0, (workP pl dry s a).2)) q1'.out hB4.out q2.out Try.results36 rfl rfl
      · have hr : Hid (doP pl dry s a = (er, noStore)) := by unfold Hid doP; rw [← hckE.out, if_neg (by decide), if_neg (by simpa using hkk.out), ← hna.out, ← hsc.out, if_neg (by decide), hw2.out.1, ← her.out, if_pos he]
        have b3 : (er != 0) = true := by simpa using he
        replace he := Lib.hid he
        go_wp2_with fail
        rw [hr.out]
        exact hX9.out.wrong (r := (er, noStore)) rfl Try.results36 rfl rfl
--B
  · have hr : Hid (doP pl dry s a = (ck, noStore)) := by unfold Hid doP; rw [← hckE.out, if_pos h0]
    have h0b : (ck != 0) = true := by simpa using h0
    go_enter Try.func36, Try.ntmps36
    go_upto_region 1 with fail
    rw [← hW0]
    replace hW0 := Lib.hid hW0
    obtain ⟨p0, p1⟩ := cells2 hX0.out.farm
    obtain ⟨k0, k1, k2, k3, k4, k5⟩ := six_cells hX0.out.store
    go_upto_region 2 with fail
    clear p0 p1 k0 k1 k2 k3 k4 k5
    go_at_call 29
    (with_reducible refine hck.out.mono ?_)
    rintro e w1 ⟨rfl, hb1⟩
    have hX1 := Lib.hid (hX0.out.later hb1)
    obtain ⟨d0, d1, d2, d3, d4, d5⟩ := cells6 hX1.out.out
    have f0 := hfz.out _ hX1.out 0
    have f1 := hfz.out _ hX1.out 1
    have f2 := hfz.out _ hX1.out 2
    have f3 := hfz.out _ hX1.out 3
    have f4 := hfz.out _ hX1.out 4
    have f5 := hfz.out _ hX1.out 5
    replace h0 := Lib.hid h0
    go_wp2_with fail
    rw [hr.out]
    exact hX1.out.wrong (r := (ck, noStore)) rfl Try.results36 rfl rfl
end Go.Proofs.Ytpgkhlpepckfgaa
