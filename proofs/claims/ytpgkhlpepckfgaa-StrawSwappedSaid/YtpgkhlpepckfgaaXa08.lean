/-
  straw.Choose's inner function, over all fields that are left.
-/
import Derived.Test.YtpgkhlpepckfgaaXa07
import Derived.Maps.AppendAt
import Derived.Outline
set_option linter.all false
set_option linter.unusedVariables false
set_option linter.unusedSimpArgs false
namespace Go.Proofs.Ytpgkhlpepckfgaa
open Go.RowKit Go.Lib Go.Maps

theorem info3 : (Try.prog.info? 3).map (fun i => (i.zero, i.size, i.bytes)) = some (some (.int .i64 0), 1, 8) := by kernel_rfl

/-- The cells of a field's own variable that are read. -/
theorem pblock_cells {w : World} {k : Nat} {p : Plot} (h : w.heap[k]? = some (pblock p)) :
    w.cell? ⟨k, 1, none⟩ = some (.int .i64 p.crop) ∧ w.cell? ⟨k, 2, none⟩ = some (.int .i64 p.size) ∧ w.cell? ⟨k, 3, none⟩ = some (.int .i64 p.yield.lo) ∧ w.cell? ⟨k, 8, none⟩ = some (.int .i64 p.cost) := by
  refine ⟨?_, ?_, ?_, ?_⟩ <;> simp [World.cell?, h]

theorem row_two {w : World} {base : Nat} {v : Value} {l : List Int} {i : Int} (h : SlRow w base v (l ++ [i])) : ∃ g cap, v = .slice (some ⟨g, 0, none⟩) (l.length + 1) cap ∧ l.length + 1 ≤ cap ∧ cap ≤ maxLen := by
  unfold SlRow at h
  rw [List.length_append] at h
  exact row_succ h
theorem pushed {w0 w W w1 : World} {M : Nat} {A : Option Addr} {c : Nat} {plots : List Plot} {dry : Int} {n : Need} {l : List Int} {b : Best} {vl : Value} {p : Plot}
    (hW : WS w0 M w A c plots dry n l b vl) (hg : W.grownBy w1 vl.ownBlock) (hb : Below w.heap.size w W) (hP : W.heap[w.heap.size]? = some (pblock p)) (hs : M + 4 ≤ w.heap.size) (hz : w.heap.size < W.heap.size) :
    w1.heap[M + 1]? = some (.cells #[.map (some (M))] 93 (0, 0)) ∧ w1.heap[M + 2]? = some (.cells #[vl] 29 (0, 0)) ∧ w1.heap[M + 3]? = some (.cells #[.func (.func 44) #[] (caps w0.heap.size M)] 94 (0, 0)) ∧ w1.heap[w.heap.size]? = some (pblock p) := by
  obtain ⟨vc, hvl, hrl, _⟩ := hW.rows
  have hM := hW.hM
  have keep : ∀ k, k ≤ w.heap.size → k < M + 4 ∨ k = w.heap.size → w1.heap[k]? = W.heap[k]? := fun k hk hor => hg.block k (by omega) (fun e => by have := hrl.lt k e.symm; omega)
  exact ⟨(keep _ (by omega) (by omega)).trans ((hb.block _ (by omega)).trans hW.want), (keep _ (by omega) (by omega)).trans ((hb.block _ (by omega)).trans hvl), (keep _ (by omega) (by omega)).trans ((hb.block _ (by omega)).trans hW.walk), (keep _ (by omega) (by omega)).trans hP⟩

set_option maxHeartbeats 2000000 in
set_option maxRecDepth 100000 in
theorem walk_any (w0 : World) (M : Nat) (A : Option Addr) (c : Nat) (plots : List Plot) (dry : Int) (hpl : RdPlots w0 A plots) (h12 : plots.length ≤ 12) (hok : ∀ p ∈ plots, plotOk p = true) (ps : List Plot) :
    ∀ (i : Nat) (paid : Int) (n : Need) (l : List Int) (b : Best) (vl : Value) (w : World), i ≤ plots.length → plots.drop i = ps → 0 ≤ paid → paid ≤ 1000000 * i → NeedIn n (100000 * (i + 1)) → l.length ≤ i → b.choice.length ≤ 12 → WS w0 M w A c plots dry n l b vl →
    Calls Try.prog 44 (#[.int .i64 i, .int .i64 paid] ++ caps w0.heap.size M) w fun e w' => e = .returned (.tuple #[]) ∧ ∃ vl', WS w0 M w' A c plots dry n l (walkP ps i paid n l b) vl' ∧ Fr w0.heap.size M w vl w' vl' := by
  induction ps with
  | nil =>
    intro i paid n l b vl w hi hd h0 h1 hn hl hb hW
    have : i = plots.length := by
      have := congrArg List.length hd
      simp at this; omega
    subst this
    exact leaf_any w0 w M A c plots dry n l b vl paid (by omega) hb hW
  | cons p ps ih =>
    intro i paid n l b vl w hi hd h0 h1 hn hl hb hW
    have hlt : i < plots.length := by
      have := congrArg List.length hd
      simp at this; omega
    have hcons := List.drop_eq_getElem_cons hlt
    rw [hd] at hcons
    obtain ⟨rfl, hps⟩ := List.cons.inj hcons
    have hpk := hok _ (List.getElem_mem hlt)
    have hrd := hpl.below (hW.below)
    obtain ⟨ad, hA, g0, g1, g2, g3, g4, g5, g6, g7, g8⟩ := hrd.1.at9 hlt rfl
    subst hA
    obtain ⟨m, hm⟩ := hW.mp
    obtain ⟨vc, hvl, hrl, hvc, hrc, hap⟩ := hW.rows
    obtain ⟨Al, kl, rfl⟩ := hrl.slice
    have cf := cell_of_two hW.farm
    have cl := cell_of_one hvl
    have hsz := hW.size
    have hM := hW.hM
    have z0 : w0.heap.size < w.heap.size := by omega
    have z2 : w0.heap.size + 2 < w.heap.size := by omega
    have z3 : w0.heap.size + 3 < w.heap.size := by omega
    have z4 : w0.heap.size + 4 < w.heap.size := by omega
    have z6 : M + 1 < w.heap.size := by omega
    have z7 : M + 2 < w.heap.size := by omega
    have z8 : M + 3 < w.heap.size := by omega
    have hlt' : (i : Int) < (plots.length : Int) := by omega
    have HI := Lib.hid ih
    clear ih hcons hd
    have hbW : Hid (Below w.heap.size w ((w.alloc (pblock plots[i])).alloc (.cells #[.int .i64 i] 3))) := ((Below.refl _ w).alloc (Nat.le_refl _) _).alloc (by simp) _
    have hzW : Hid (w.heap.size < ((w.alloc (pblock plots[i])).alloc (.cells #[.int .i64 i] 3)).heap.size) := by unfold Hid; simp; omega
    have hPW : Hid (((w.alloc (pblock plots[i])).alloc (.cells #[.int .i64 i] 3)).heap[w.heap.size]? = some (pblock plots[i])) := by
      unfold Hid; rw [Below.heap_alloc _ _ _ (by simp)]; exact (MapKept.heap_alloc w _).1
    obtain ⟨k1, k2, k3, k4, k5, k6, _, _, _, _, _, k7, k8⟩ := plotOk_bounds hpk
    have kk := prod_bounds k2 k3 k4 (by omega)
    obtain ⟨kk1, kk2⟩ := kk
    have kg := hn.get plots[i].crop
    obtain ⟨kg1, kg2⟩ := kg
    have hn2 : Hid (NeedIn (needSub n plots[i].crop (plots[i].size * plots[i].yield.lo)) (100000 * (((i + 1 : Nat) : Int) + 1))) := by
      exact (hn.sub plots[i].crop (plots[i].size * plots[i].yield.lo) kk1).mono (by omega)
    have hl2 : Hid ((l ++ [(i : Int)]).length ≤ i + 1) := by unfold Hid; simp; omega
    have hne5 : Hid (w.heap.size ≠ M) := by unfold Hid; omega
    have hne7 : Hid (w.heap.size ≠ M + 2) := by unfold Hid; omega
    have hne2 : Hid (w.heap.size ≠ w0.heap.size + 2) := by unfold Hid; omega
    have hne3 : Hid (w.heap.size ≠ w0.heap.size + 3) := by unfold Hid; omega
    have hne4 : Hid (w.heap.size ≠ w0.heap.size + 4) := by unfold Hid; omega
    have hn3 : Hid (NeedIn n (100000 * (((i + 1 : Nat) : Int) + 1))) := hn.mono (by omega)
    have hG2 := Lib.hid (needM_get (needSub n plots[i].crop (plots[i].size * plots[i].yield.lo)) plots[i].crop k1)
    have hU2 : Hid (needM n (.int .i64 plots[i].crop) = some (.int .i64 (needGet (needSub n plots[i].crop (plots[i].size * plots[i].yield.lo)) plots[i].crop + plots[i].size * plots[i].yield.lo))) := by
      have := needM_put (needSub n plots[i].crop (plots[i].size * plots[i].yield.lo)) plots[i].crop (-(plots[i].size * plots[i].yield.lo)) k1
      rw [needSub_back] at this
      unfold Hid; rw [this, Int.sub_neg]
    obtain ⟨kg3, kg4⟩ := hn2.out.get plots[i].crop
    have hbl : Hid ((walkP ps ((i + 1 : Nat) : Int) (paid + plots[i].cost) (needSub n plots[i].crop (plots[i].size * plots[i].yield.lo)) (l ++ [(i : Int)]) b).choice.length ≤ 12) := walkP_len ps _ _ _ _ _ (by simp only [List.length_append, List.length_singleton, hps, List.length_drop]; omega) hb
    have hKey := Lib.hid (keyOf_int_mk Try.underlying74 (a := plots[i].crop) (WalkArith.wf_i64 (by simp only [cropB, Bool.and_eq_true, decide_eq_true_eq] at k1; omega)))
    have hG1 := Lib.hid (needM_get n plots[i].crop k1)
    have hU1 := Lib.hid (needM_put n plots[i].crop (plots[i].size * plots[i].yield.lo) k1)
    have k1 := Lib.hid k1
    have hnew := Lib.hid (cell_one_new (w.alloc (pblock plots[i])) (.int .i64 i) 3)
    simp only [World.size_alloc] at hnew
    have hc1 : Hid (l.length + 1 ≤ maxLen) := by unfold Hid maxLen; omega
    have hc2 : Hid ((l.length + 1) * 8 ≤ 140737488355328) := by unfold Hid; omega
    have hc3 : Hid (M + 4 ≤ ((w.alloc (pblock plots[i])).alloc (.cells #[.int .i64 i] 3)).heap.size) := by unfold Hid; simp; omega
    have hrl2 : Hid (SlRow ((w.alloc (pblock plots[i])).alloc (.cells #[.int .i64 i] 3)) (M + 4) (.slice Al l.length kl) l) := hrl.below (((Below.refl _ w).alloc (Nat.le_refl _) _).alloc (by simp) _)
    have hrl := Lib.hid hrl
    have hrc := Lib.hid hrc
    have hap := Lib.hid hap
    have hvl := Lib.hid hvl
    have hvc := Lib.hid hvc
    have hm := Lib.hid hm
    have hps := Lib.hid hps
    have hok := Lib.hid hok
    show Calls Try.prog 44 #[.int .i64 i, .int .i64 paid, ptr w0.heap.size, ptr (M + 1), ptr (w0.heap.size + 4), ptr (w0.heap.size + 3), ptr (M + 2), ptr (w0.heap.size + 2), ptr (M + 3)] w _
    go_enter Try.func44, Try.ntmps44
    go_wp2_with (first | (at_builtin; refine wp_app _ rfl _ _ 29 rfl (M + 4) 3 1 8 Try.underlying29 info3 rfl (by decide) _ _ _ rfl (hrl2.out) ⟨w.heap.size + 1, 0, none⟩ 1 1 [.int .i64 i] rfl rfl hnew.out (by simp [Value.oneCell']) hc1.out hc2.out hc3.out ?_; intro v' w1 hown hgrow hnear; obtain ⟨g', cap', rfl, _, _⟩ := row_succ hown; have hpu := hW.push hbW.out i hown hgrow hnear; obtain ⟨p6, p7, p8, pP⟩ := pushed hW hgrow hbW.out hPW.out hsz hzW.out; have q6 := cell_of_one p6; have q7 := cell_of_one p7; have r7 := free_of_one p7; obtain ⟨c1, c2, c3, c8⟩ := pblock_cells pP; have hvne : Hid ((Value.slice (some ⟨g', 0, none⟩) (l.length + 1) cap').ownBlock ≠ some w.heap.size) := fun e => (hnear _ e).elim (fun e1 => Nat.lt_irrefl _ (hrl.out.lt _ e1).2) (fun e1 => Nat.lt_irrefl _ (Nat.lt_of_lt_of_le hzW.out e1)); have pP := Lib.hid pP; have WS1 := Lib.hid hpu.1; have Fr1 := Lib.hid hpu.2; obtain ⟨m1, hm1⟩ := hpu.1.mp; have hm1 := Lib.hid hm1; have s1 := WS1.out.size; have hlt1 := Lib.hid (Nat.lt_of_lt_of_le hzW.out hgrow.size); clear hnear hpu p6 p7 p8 hown hgrow) | (at_lookup; refine wp_look _ rfl _ _ 93 rfl 74 3 (int_keyed Try.underlying74) Try.underlying93 (.int .i64 0) (zeroInt _) (M) m1 (needM n) rfl hm1.out (.int .i64 plots[i].crop) _ rfl hKey.out (.int .i64 (needGet n plots[i].crop)) hG1.out ?_) | (at_mapUpdate; refine wp_store _ rfl _ _ _ 93 (.inl rfl) 74 3 (int_keyed Try.underlying74) Try.underlying93 (M) m1 (needM n) rfl hm1.out (.int .i64 plots[i].crop) _ _ rfl rfl hKey.out (needM (needSub n plots[i].crop (plots[i].size * plots[i].yield.lo))) hU1.out (fun x _ _ hx => needM_other n _ _ x hx k1.out) ?_; intro w2 hm2 hg2; have hpu := WS1.out.put hm2 hg2; have p8 := cell_of_one hpu.1.walk; have pP2 := (hg2.block w.heap.size (by rw [set_size]; exact hlt1.out) (fun e => hne5.out (Option.some.inj e))).trans ((Below.heap_setCell _ _ _ _ hne7.out).trans pP.out); obtain ⟨_, _, _, c8⟩ := pblock_cells pP2; have WS2 := Lib.hid hpu.1; have Fr2 := Lib.hid hpu.2; have pP2 := Lib.hid pP2; have hlt2 := Lib.hid (Nat.lt_of_lt_of_le hlt1.out (Nat.le_trans (Nat.le_of_eq (set_size _ _ _).symm) hg2.size)); clear hpu hm2 hg2 hm1 pP WS1) | (go_at_call 44; refine (show Calls Try.prog 44 #[.int .i64 ((i : Int) + 1), .int .i64 (paid + plots[i].cost), ptr w0.heap.size, ptr (M + 1), ptr (w0.heap.size + 4), ptr (w0.heap.size + 3), ptr (M + 2), ptr (w0.heap.size + 2), ptr (M + 3)] w2 _ from HI.out (i + 1) (paid + plots[i].cost) _ (l ++ [(i : Int)]) b _ w2 hlt hps.out.symm (by omega) (by omega) hn2.out hl2.out hb WS2.out).mono ?_; clear WS2; rintro e w3 ⟨rfl, v3, hWS3, hFr3⟩; obtain ⟨vc3, hvl3, hrl3, _⟩ := hWS3.rows; obtain ⟨g3, cap3, rfl, hcap3, _⟩ := row_two hrl3; have q63 := cell_of_one hWS3.want; have pP3 := (hFr3.same w.heap.size hlt2.out hne2.out hne3.out hne4.out hne5.out hne7.out hvne.out).trans pP2.out; obtain ⟨c13, c23, c33, _⟩ := pblock_cells pP3; obtain ⟨m3, hm3⟩ := hWS3.mp; have hm3 := Lib.hid hm3; have WS3 := Lib.hid hWS3; have Fr3 := Lib.hid hFr3; clear hWS3 hFr3 hvl3 hrl3 pP3) | (at_lookup; refine wp_look _ rfl _ _ 93 rfl 74 3 (int_keyed Try.underlying74) Try.underlying93 (.int .i64 0) (zeroInt _) (M) m3 (needM (needSub n plots[i].crop (plots[i].size * plots[i].yield.lo))) rfl hm3.out (.int .i64 plots[i].crop) _ rfl hKey.out (.int .i64 (needGet (needSub n plots[i].crop (plots[i].size * plots[i].yield.lo)) plots[i].crop)) hG2.out ?_) | (at_mapUpdate; refine wp_store _ rfl _ _ _ 93 (.inl rfl) 74 3 (int_keyed Try.underlying74) Try.underlying93 (M) m3 (needM (needSub n plots[i].crop (plots[i].size * plots[i].yield.lo))) rfl hm3.out (.int .i64 plots[i].crop) _ _ rfl rfl hKey.out (needM n) hU2.out (fun x _ _ hx => (needM_other n _ _ x hx k1.out).symm) ?_; intro w4 hm4 hg4; have hpu := WS3.out.put hm4 hg4; have p84 := cell_of_one hpu.1.walk; obtain ⟨vc4, hvl4, _⟩ := hpu.1.rows; have q74 := cell_of_one hvl4; have r74 := free_of_one hvl4; have WS4 := Lib.hid hpu.1; have Fr4 := Lib.hid hpu.2; clear hpu hm4 hg4 hm3 WS3 hvl4) | (go_at_call 44; refine (show Calls Try.prog 44 #[.int .i64 ((i : Int) + 1), .int .i64 paid, ptr w0.heap.size, ptr (M + 1), ptr (w0.heap.size + 4), ptr (w0.heap.size + 3), ptr (M + 2), ptr (w0.heap.size + 2), ptr (M + 3)] (World.setCell w4 ⟨M + 2, 0, none⟩ (.slice (some ⟨g3, 0, none⟩) l.length cap3)) _ from HI.out (i + 1) paid n l _ _ _ hlt hps.out.symm h0 (by omega) hn3.out (by omega) hbl.out WS4.out.pop.1).mono ?_; rintro e w6 ⟨rfl, v6, hWS6, hFr6⟩))
    have hcast : ((i + 1 : Nat) : Int) = (i : Int) + 1 := by omega
    go_end0
    refine ⟨rfl, v6, ?_, Fr1.out.trans (Fr2.out.trans (Fr3.out.trans (Fr4.out.trans (WS4.out.pop.2.trans hFr6))))⟩
    rw [walkP, ← hcast]
    exact hWS6
end Go.Proofs.Ytpgkhlpepckfgaa
