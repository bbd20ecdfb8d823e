/-
  The law StrawLeast, walked.
-/
import Derived.Test.YtpgkhlpepckfgaaLeastP
import Derived.Test.YtpgkhlpepckfgaaGreat
import Derived.Test.YtpgkhlpepckfgaaLives
namespace Go.Proofs.Ytpgkhlpepckfgaa
open Go.RowKit Go.Lib

abbrev W3 (w : World) (f n a : Array Value) : World := ((w.alloc (.cells f 24)).alloc (.cells n 26)).alloc (.cells a 36)
theorem three_below (w : World) (f n a : Array Value) : Below w.heap.size w (W3 w f n a) := (((Below.refl _ w).alloc (Nat.le_refl _) _).alloc (by simp) _).alloc (by simp; omega) _
theorem three_cells (w : World) (f n a : Array Value) {w1 : World} (hb : Below (W3 w f n a).heap.size (W3 w f n a) w1) : w.heap.size + 3 ≤ w1.heap.size ∧ w1.heap[w.heap.size]? = some (.cells f 24 (0, 0)) ∧ w1.heap[w.heap.size + 1]? = some (.cells n 26 (0, 0)) ∧ w1.heap[w.heap.size + 1 + 1]? = some (.cells a 36 (0, 0)) := by
  have hs := hb.size
  simp at hs
  exact ⟨by omega, (hb.block _ (by simp; omega)).trans (heap_old _ _ _ _ (heap_old _ _ _ _ (heap_new _ _ _ rfl))), (hb.block _ (by simp)).trans (heap_old _ _ _ _ (heap_new _ _ _ (by simp))), (hb.block _ (by simp)).trans (heap_new _ _ _ (by simp))⟩
theorem fields_succ (i : Nat) : fields 0 (i + 1) = fields 0 i ++ [(i : Int)] := by
  rw [fields_range, fields_range, List.range_succ, List.map_append]; rfl

theorem cells_three36 {w : World} {b : Nat} {x y z : Value} {t : TypeId} (h : w.heap[b]? = some (.cells #[x, y, z] t (0, 0))) : w.cell? ⟨b, 0, none⟩ = some x ∧ w.cell? ⟨b, 1, none⟩ = some y ∧ w.cell? ⟨b, 2, none⟩ = some z := cells_three h
theorem app_frame {W w1 : World} {base : Nat} {vA vB : Value} {la : List Int} (hA : SlRow W base vA la) (hg : W.grownBy w1 vB.ownBlock) (hne : ∀ k, vA.ownBlock = some k → vB.ownBlock ≠ some k) : SlRow w1 base vA la :=
  ownsRow_same hA fun k hk => hg.block k (hA.lt k hk).2 (fun e => hne k hk e.symm)
theorem app_ne {W : World} {base : Nat} {vA vB vB' : Value} {la : List Int} (hA : SlRow W base vA la) (hne : ∀ k, vA.ownBlock = some k → vB.ownBlock ≠ some k) (hnear : ∀ k, vB'.ownBlock = some k → vB.ownBlock = some k ∨ W.heap.size ≤ k) : ∀ k, vA.ownBlock = some k → vB'.ownBlock ≠ some k := fun k hk e => by
  rcases hnear k e with h | h
  · exact hne k hk h
  · have := (hA.lt k hk).2; omega
theorem row_snoc {w1 : World} {base : Nat} {v : Value} {l : List Int} {i : Int} (h : w1.ownsRow base 3 1 v (l.length + 1) (l.map (Value.int .i64) ++ [.int .i64 i])) : SlRow w1 base v (l ++ [i]) := by
  unfold SlRow
  rw [List.map_append, List.length_append]
  exact h
theorem one_kept {wo wr : World} (hb : Below wo.heap.size wo wr) (o : Obj) : Below wo.heap.size wo (wr.alloc o) := hb.alloc hb.size o

set_option maxHeartbeats 2000000 in
set_option maxRecDepth 100000 in
theorem least_any (A : Option Addr) (c : Nat) (l : List Plot) (dry : Int) (n : Need) (set a0 a1 a2 : Int) (w : World) (h : RdPlots w A l) (x0 : 0 ≤ a0 ∧ a0 ≤ 65535) (x1 : 0 ≤ a1 ∧ a1 ≤ 65535) (x2 : 0 ≤ a2 ∧ a2 ≤ 65535) :
    Calls Try.prog 4 #[.agg #[.slice A l.length c, .int .i64 dry], .agg #[.int .i64 n.reed, .int .i64 n.straw, .int .i64 n.heather], .int .u16 set, .agg #[.int .u16 a0, .int .u16 a1, .int .u16 a2]] w fun e w' => e = .returned (.bool true) ∧ Below w.heap.size w w' := by
  have h0 := three_below w #[.slice A l.length c, .int .i64 dry] #[.int .i64 n.reed, .int .i64 n.straw, .int .i64 n.heather] #[.int .u16 a0, .int .u16 a1, .int .u16 a2]
  have hl := h.below h0
  have h0 := Lib.hid h0
  by_cases hE : (chooseP l dry n).2 = 0
  · have hck : checkI l dry = 0 := by
      unfold chooseP at hE; split at hE
      · simp_all
      · exact Decidable.byContradiction fun h => by simp_all
    have hin : (inB n.reed 0 100000 && inB n.straw 0 100000 && inB n.heather 0 100000) = true := by
      unfold chooseP at hE; rw [if_neg (fun h => h hck)] at hE
      split at hE
      · cases hE
      · exact (by rename_i hq; simpa only [Bool.not_eq_false] using hq)
    have hok := checkI_ok hck
    have h12 := (checkI_zero hck).1
    have hp : chooseP l dry n = (walkP l 0 0 n [] ⟨false, 0, []⟩, 0) := by unfold chooseP; rw [if_neg (fun h => h hck), if_neg (by rw [hin]; decide)]
    have hO := least_ok n hok
    have hless := fun m (hm : NeedLe m n) => least_less (pl := l) (m := m) hm hok
    have hcm : ∀ m : Need, (inB m.reed 0 100000 && inB m.straw 0 100000 && inB m.heather 0 100000) = true → chooseP l dry m = (walkP l 0 0 m [] ⟨false, 0, []⟩, 0) := fun m hm => by unfold chooseP; rw [if_neg (fun h => h hck), if_neg (by rw [hm]; decide)]
    generalize walkP l 0 0 n [] ⟨false, 0, []⟩ = b at hp hO hless
    have hp := Lib.hid hp
    have hO := Lib.hid hO
    have hless := Lib.hid hless
    have hcm := Lib.hid hcm
    have hok := Lib.hid hok
    have hck := Lib.hid hck
    simp only [inB, Bool.and_eq_true, decide_eq_true_eq] at hin
    obtain ⟨⟨⟨i1, i2⟩, i3, i4⟩, i5, i6⟩ := hin
    clear hE
    go_enter Try.func4, Try.ntmps4
    go_wp2_with (first | (go_at_call 16; refine (great_any _ _ _ _ _ hl).mono ?_; rintro e w1 ⟨⟨bb, rfl, _⟩, hb1⟩; obtain ⟨hz1, hF, hN, hA⟩ := three_cells w _ _ _ hb1; obtain ⟨n1, n2, n3⟩ := cells_three hN; obtain ⟨g1, g2⟩ := cells_two hF) | (go_at_call 17; refine (lives_any _).mono ?_; rintro e wL ⟨rfl, hbL⟩) | (go_at_call 18; refine (choose_any _ _ _ _ n _ (hl.below hb1)).mono ?_; rw [hp.out]; rintro e w2 ⟨A2, c2, rfl, hR2, hb2⟩; have hb12 := hb1.trans (hb2.mono hb1.size)))
    · refine bodyPost_ret (v := .bool true) (by simp [results, Try.results4, go_sem]) rfl ⟨rfl, h0.out.trans ((hb1.trans (hbL.mono hb1.size)).mono h0.out.size)⟩
    · obtain ⟨hz, hF, hN, hA⟩ := three_cells w _ _ _ hb12
      obtain ⟨wo, rfl⟩ : ∃ x, x = w2 := ⟨w2, rfl⟩
      have hF := Lib.hid hF
      have hN := Lib.hid hN
      have hA := Lib.hid hA
      have hR2 := Lib.hid hR2
      have hb12 := Lib.hid hb12
      clear n1 n2 n3 g1 g2 hb1 hb2
      have y1 := cell_of_two hF.out
      have z0 : w.heap.size < wo.heap.size := by omega
      go_loopw [13, 14, 15] (fun v13 v14 v15 wi => ∃ (i : Nat) (t : List Int), v15 = .int .i64 i ∧ i ≤ l.length ∧ t.Sublist (fields 0 i) ∧ Hid (SlRow wi wo.heap.size v13 t) ∧ Hid (SlRow wi wo.heap.size v14 (fields 0 i)) ∧ Hid (∀ k, v13.ownBlock = some k → v14.ownBlock ≠ some k) ∧ Hid (Below wo.heap.size wo wi)) (fun _ _ v _ => l.length - (intOf v).toNat)
      case atStart => exact ⟨0, [], rfl, Nat.zero_le _, by simp, World.ownsRow_nil _ _ _ _, World.ownsRow_nil _ _ _ _, (fun k e => by cases e), Below.refl _ _⟩
      case round =>
        obtain ⟨i, t, rfl, hi, ht, hr13, hr14, hne, hb⟩ := hrel
        obtain ⟨A13, c13, rfl⟩ := hr13.out.slice
        obtain ⟨A14, c14, rfl⟩ := hr14.out.slice
        have hs2 := hb.out.size
        have y2 : wr.cell? ⟨w.heap.size, 0, none⟩ = some (.slice A l.length c) := (bcell hb.out).1 _ _ z0 |>.trans y1
        have z1 : w.heap.size < wr.heap.size := by omega
        by_cases hil : i < l.length
        · have hnew := Lib.hid (cell_one_new wr (.int .i64 i) 3)
          have hx13 : Hid (SlRow (wr.alloc (.cells #[.int .i64 i] 3)) wo.heap.size (.slice A13 t.length c13) t) := hr13.out.below ((Below.refl _ wr).alloc (Nat.le_refl _) _)
          have hx14 : Hid (SlRow (wr.alloc (.cells #[.int .i64 i] 3)) wo.heap.size (.slice A14 (fields 0 i).length c14) (fields 0 i)) := hr14.out.below ((Below.refl _ wr).alloc (Nat.le_refl _) _)
          have hlt := ht.length_le
          rw [fields_len] at hlt
          have hc1 : Hid ((fields 0 i).length + 1 ≤ maxLen) := by unfold Hid maxLen; rw [fields_len]; omega
          have hc2 : Hid (((fields 0 i).length + 1) * 8 ≤ 140737488355328) := by unfold Hid; rw [fields_len]; omega
          have hc3 : Hid (wo.heap.size ≤ (wr.alloc (.cells #[.int .i64 i] 3)).heap.size) := (one_kept hb.out _).size
          have hd1 : Hid (t.length + 1 ≤ maxLen) := by unfold Hid maxLen; omega
          have hd2 : Hid ((t.length + 1) * 8 ≤ 140737488355328) := by unfold Hid; omega
          have hfs := Lib.hid (fields_succ i)
          go_wp2_with (first | (at_builtin; refine wp_app _ rfl _ _ 29 rfl wo.heap.size 3 1 8 Try.underlying29 info3 rfl (by decide) _ _ _ rfl hx14.out ⟨wr.heap.size, 0, none⟩ 1 1 [.int .i64 i] rfl rfl hnew.out (by simp [Value.oneCell']) hc1.out hc2.out hc3.out ?_; intro v' w1 hown hgrow hnear; have hne1 := Lib.hid (app_ne hx13.out hne.out hnear); have hr13' := Lib.hid (app_frame hx13.out hgrow hne.out); have hbw1 : Below wo.heap.size wo w1 := (one_kept hb.out _).grown hgrow hc3.out (fun k e => (hx14.out.lt k e).1); have hr14' := Lib.hid (row_snoc hown); obtain ⟨g', cap', rfl, _, _⟩ := row_succ hown; have hs3 := hbw1.size; have y3 : w1.cell? ⟨w.heap.size, 0, none⟩ = some (.slice A l.length c) := ((bcell hbw1).1 _ _ z0).trans y1; have hbw1 := Lib.hid hbw1; have hx13b := Lib.hid (hr13'.out.below ((Below.refl _ w1).alloc (Nat.le_refl _) (.cells #[.int .i64 i] 3))); have hx14b := Lib.hid (hr14'.out.below ((Below.refl _ w1).alloc (Nat.le_refl _) (.cells #[.int .i64 i] 3))); have hnewb := Lib.hid (cell_one_new w1 (.int .i64 i) 3); have hc3b := Lib.hid (one_kept hbw1.out (.cells #[.int .i64 i] 3)).size; clear hown hgrow hnear) | (at_builtin; refine wp_app _ rfl _ _ 29 rfl wo.heap.size 3 1 8 Try.underlying29 info3 rfl (by decide) _ _ _ rfl hx13b.out ⟨w1.heap.size, 0, none⟩ 1 1 [.int .i64 i] rfl rfl hnewb.out (by simp [Value.oneCell']) hd1.out hd2.out hc3b.out ?_; intro v' w2 hown hgrow hnear; have hne2 := Lib.hid (app_ne hx14b.out (fun k e1 e2 => hne1.out k e2 e1) hnear); have hr14'' := Lib.hid (app_frame hx14b.out hgrow (fun k e1 e2 => hne1.out k e2 e1)); have hbw2 : Below wo.heap.size wo w2 := (one_kept hbw1.out _).grown hgrow hc3b.out (fun k e => (hx13b.out.lt k e).1); have hr13'' := Lib.hid (row_snoc hown); obtain ⟨g2, cap2, rfl, _, _⟩ := row_succ hown; have hs4 := hbw2.size; have y4 : w2.cell? ⟨w.heap.size, 0, none⟩ = some (.slice A l.length c) := ((bcell hbw2).1 _ _ z0).trans y1; have hbw2 := Lib.hid hbw2; clear hown hgrow hnear))
          · refine ⟨⟨i + 1, t ++ [(i : Int)], rfl, by omega, by rw [hfs.out]; exact ht.append (List.Sublist.refl _), ?_, ?_, ?_, hbw2⟩, by simp only [intOf]; omega⟩
            · exact hr13''
            · rw [hfs.out]; exact hr14''
            · exact fun k e1 e2 => hne2.out k e2 e1
          · exact ⟨⟨i + 1, t, rfl, by omega, by rw [hfs.out]; exact ht.trans (List.sublist_append_left _ _), hr13', by rw [hfs.out]; exact hr14', hne1, hbw1⟩, by simp only [intOf]; omega⟩
        · have hie : i = l.length := by omega
          subst hie
          clear hil hi
          have hx0 : Below wr.heap.size wr wr := Below.refl _ _
          have hlt := ht.length_le
          rw [fields_len] at hlt
          have hfl : Hid ((fields 0 l.length).length ≤ 12) := by unfold Hid; rw [fields_len]; exact h12
          have hcl : Hid (b.choice.length ≤ 12) := by have := hO.out.sub.length_le; rw [fields_len] at this; unfold Hid; omega
          have htl : Hid (t.length ≤ 12) := by unfold Hid; omega
          obtain ⟨_, _, e1, hRt⟩ := hr13.out.reads (by have := htl.out; omega)
          cases e1
          obtain ⟨_, _, e2, hRf⟩ := hr14.out.reads (by have := hfl.out; omega)
          cases e2
          have hRc := hR2.out.below hb.out
          have hPl : RdPlots wr A l := (hl.below hb12.out).below hb.out
          have hwhole := Lib.hid hO.out.whole
          have hat : ∀ wx, Below wr.heap.size wr wx → wx.heap[w.heap.size]? = some (.cells #[.slice A l.length c, .int .i64 dry] 24 (0, 0)) ∧ wx.heap[w.heap.size + 1]? = some (.cells #[.int .i64 n.reed, .int .i64 n.straw, .int .i64 n.heather] 26 (0, 0)) ∧ wx.heap[w.heap.size + 1 + 1]? = some (.cells #[.int .u16 a0, .int .u16 a1, .int .u16 a2] 36 (0, 0)) := fun wx hx => by
            have hy : Below wo.heap.size wo wx := hb.out.trans (hx.mono hs2)
            exact ⟨(hy.block _ (by omega)).trans hF.out, (hy.block _ (by omega)).trans hN.out, (hy.block _ (by omega)).trans hA.out⟩
          have hfin : ∀ wx, Below wr.heap.size wr wx → Below w.heap.size w wx := fun wx hx => h0.out.trans ((hb12.out.trans ((hb.out.trans (hx.mono hs2)).mono hb12.out.size)).mono h0.out.size)
          obtain ⟨hF0, hN0, hA0⟩ := hat _ hx0
          obtain ⟨m1, m2, m3⟩ := cells_three hN0
          obtain ⟨f1, f2⟩ := cells_two hF0
          have z2 : w.heap.size + 1 < wr.heap.size := by omega
          have z3 : w.heap.size + 1 + 1 < wr.heap.size := by omega
          generalize hFL : fields 0 l.length = FL at hRf hfl hwhole hr14
          have hFs : Hid (FL.Sublist (fields 0 l.length)) := by unfold Hid; rw [hFL]; exact List.Sublist.refl _
          clear hFL
          cases hf : b.found
          · obtain ⟨hch, hco⟩ := hO.out.none hf
            have hf := Lib.hid hf
            rw [hf.out] at hwhole
            go_wp2_with (first | (go_at_call 21; first | (refine (given_any _ _ _ _ l dry n t _ (hPl.below hx4) (hRt.below hx4) ht hok.out htl.out).mono ?_; rintro e w5 ⟨rfl, hb5⟩; have hx5 := hx4.trans (hb5.mono hx4.size); obtain ⟨hF5, hN5, hA5⟩ := hat _ hx5; obtain ⟨n1'', n2'', n3''⟩ := cells_three hN5; obtain ⟨g1'', g2''⟩ := cells_two hF5; obtain ⟨a1'', a2'', a3''⟩ := cells_three36 hA5; have s5 := Nat.lt_of_lt_of_le z1 hx5.size; have s6 := Nat.lt_of_lt_of_le z2 hx5.size) | (refine (given_any _ _ _ _ l dry n b.choice _ (hPl.below hx3) (hRc.below hx3) hO.out.sub hok.out hcl.out).mono ?_; rw [← hO.out.cost, hO.out.enough hf.out]; rintro e w4 ⟨rfl, hb4⟩; have hx4 := hx3.trans (hb4.mono hx3.size); obtain ⟨hF4, hN4, hA4⟩ := hat _ hx4; obtain ⟨n1', n2', n3'⟩ := cells_three hN4; obtain ⟨g1', g2'⟩ := cells_two hF4) | (refine (given_any _ _ _ _ l dry n FL _ (hPl.below hx0) (hRf.below hx0) hFs.out hok.out hfl.out).mono ?_; rw [← hwhole.out]; rintro e w3 ⟨rfl, hb3⟩; have hx3 := hx0.trans (hb3.mono hx0.size); obtain ⟨hF3, hN3, hA3⟩ := hat _ hx3; obtain ⟨n1, n2, n3⟩ := cells_three hN3; obtain ⟨g1, g2⟩ := cells_two hF3)) | (go_at_call 17; refine (lives_any _).mono ?_; rintro e wL ⟨rfl, hbL⟩))
            refine bodyPost_ret (v := .bool true) (by simp [results, Try.results4, go_sem]) rfl ⟨rfl, hfin _ (hx3.trans (hbL.mono hx3.size))⟩
          · rw [hf] at hwhole
            have hmle : NeedLe ⟨n.reed - min n.reed a0, n.straw - min n.straw a1, n.heather - min n.heather a2⟩ n := by
              refine ⟨?_, ?_, ?_⟩ <;> dsimp only <;> omega
            obtain ⟨hf2, hc2⟩ := hless.out _ hmle hf
            have hcm' := hcm.out ⟨n.reed - min n.reed a0, n.straw - min n.straw a1, n.heather - min n.heather a2⟩ (by
              simp only [inB, Bool.and_eq_true, decide_eq_true_eq]
              refine ⟨⟨⟨?_, ?_⟩, ?_, ?_⟩, ?_, ?_⟩ <;> omega)
            generalize walkP l 0 0 ⟨n.reed - min n.reed a0, n.straw - min n.straw a1, n.heather - min n.heather a2⟩ [] ⟨false, 0, []⟩ = b' at hf2 hc2 hcm'
            have hcm' := Lib.hid hcm'
            have hf := Lib.hid hf
            cases hE : enoughB l n t
            · go_wp2_with (first | (go_at_call 21; first | (refine (given_any _ _ _ _ l dry n t _ (hPl.below hx4) (hRt.below hx4) ht hok.out htl.out).mono ?_; rintro e w5 ⟨rfl, hb5⟩; have hx5 := hx4.trans (hb5.mono hx4.size); obtain ⟨hF5, hN5, hA5⟩ := hat _ hx5; obtain ⟨n1'', n2'', n3''⟩ := cells_three hN5; obtain ⟨g1'', g2''⟩ := cells_two hF5; obtain ⟨a1'', a2'', a3''⟩ := cells_three36 hA5; have s5 := Nat.lt_of_lt_of_le z1 hx5.size; have s6 := Nat.lt_of_lt_of_le z2 hx5.size) | (refine (given_any _ _ _ _ l dry n b.choice _ (hPl.below hx3) (hRc.below hx3) hO.out.sub hok.out hcl.out).mono ?_; rw [← hO.out.cost, hO.out.enough hf.out]; rintro e w4 ⟨rfl, hb4⟩; have hx4 := hx3.trans (hb4.mono hx3.size); obtain ⟨hF4, hN4, hA4⟩ := hat _ hx4; obtain ⟨n1', n2', n3'⟩ := cells_three hN4; obtain ⟨g1', g2'⟩ := cells_two hF4) | (refine (given_any _ _ _ _ l dry n FL _ (hPl.below hx0) (hRf.below hx0) hFs.out hok.out hfl.out).mono ?_; rw [← hwhole.out]; rintro e w3 ⟨rfl, hb3⟩; have hx3 := hx0.trans (hb3.mono hx0.size); obtain ⟨hF3, hN3, hA3⟩ := hat _ hx3; obtain ⟨n1, n2, n3⟩ := cells_three hN3; obtain ⟨g1, g2⟩ := cells_two hF3)) | (go_at_call 18; refine (choose_any _ _ _ _ ⟨n.reed - min n.reed a0, n.straw - min n.straw a1, n.heather - min n.heather a2⟩ _ ((hPl.below hx5).below ((Below.refl _ w5).alloc (Nat.le_refl _) _))).mono ?_; rw [hcm'.out]; rintro e w6 ⟨A6, c6, rfl, hR6, hb6⟩; have hx6 := (one_kept hx5 (.cells #[.int .i64 (n.reed - min n.reed a0), .int .i64 (n.straw - min n.straw a1), .int .i64 (n.heather - min n.heather a2)] 26)).trans (hb6.mono (by rw [World.size_alloc]; exact Nat.le_trans hx5.size (Nat.le_succ _)))) | (go_at_call 17; refine (lives_any _).mono ?_; rintro e wL ⟨rfl, hbL⟩))
              refine bodyPost_ret (v := .bool true) (by simp [results, Try.results4, go_sem]) rfl ⟨rfl, hfin _ (hx6.trans (hbL.mono hx6.size))⟩
            · have hle := hO.out.least hf.out t ht hE
              go_wp2_with (first | (go_at_call 21; first | (refine (given_any _ _ _ _ l dry n t _ (hPl.below hx4) (hRt.below hx4) ht hok.out htl.out).mono ?_; rintro e w5 ⟨rfl, hb5⟩; have hx5 := hx4.trans (hb5.mono hx4.size); obtain ⟨hF5, hN5, hA5⟩ := hat _ hx5; obtain ⟨n1'', n2'', n3''⟩ := cells_three hN5; obtain ⟨g1'', g2''⟩ := cells_two hF5; obtain ⟨a1'', a2'', a3''⟩ := cells_three36 hA5; have s5 := Nat.lt_of_lt_of_le z1 hx5.size; have s6 := Nat.lt_of_lt_of_le z2 hx5.size) | (refine (given_any _ _ _ _ l dry n b.choice _ (hPl.below hx3) (hRc.below hx3) hO.out.sub hok.out hcl.out).mono ?_; rw [← hO.out.cost, hO.out.enough hf.out]; rintro e w4 ⟨rfl, hb4⟩; have hx4 := hx3.trans (hb4.mono hx3.size); obtain ⟨hF4, hN4, hA4⟩ := hat _ hx4; obtain ⟨n1', n2', n3'⟩ := cells_three hN4; obtain ⟨g1', g2'⟩ := cells_two hF4) | (refine (given_any _ _ _ _ l dry n FL _ (hPl.below hx0) (hRf.below hx0) hFs.out hok.out hfl.out).mono ?_; rw [← hwhole.out]; rintro e w3 ⟨rfl, hb3⟩; have hx3 := hx0.trans (hb3.mono hx0.size); obtain ⟨hF3, hN3, hA3⟩ := hat _ hx3; obtain ⟨n1, n2, n3⟩ := cells_three hN3; obtain ⟨g1, g2⟩ := cells_two hF3)) | (go_at_call 18; refine (choose_any _ _ _ _ ⟨n.reed - min n.reed a0, n.straw - min n.straw a1, n.heather - min n.heather a2⟩ _ ((hPl.below hx5).below ((Below.refl _ w5).alloc (Nat.le_refl _) _))).mono ?_; rw [hcm'.out]; rintro e w6 ⟨A6, c6, rfl, hR6, hb6⟩; have hx6 := (one_kept hx5 (.cells #[.int .i64 (n.reed - min n.reed a0), .int .i64 (n.straw - min n.straw a1), .int .i64 (n.heather - min n.heather a2)] 26)).trans (hb6.mono (by rw [World.size_alloc]; exact Nat.le_trans hx5.size (Nat.le_succ _)))) | (go_at_call 17; refine (lives_any _).mono ?_; rintro e wL ⟨rfl, hbL⟩))
              refine bodyPost_ret (v := .bool true) (by simp [results, Try.results4, go_sem]) rfl ⟨rfl, hfin _ (hx6.trans (hbL.mono hx6.size))⟩
  · have hR : (chooseP l dry n).1 = ⟨false, 0, []⟩ := by
      unfold chooseP at hE ⊢
      split
      · rfl
      · split
        · rfl
        · simp_all
    obtain ⟨⟨b, er⟩, hp⟩ : ∃ x, chooseP l dry n = x := ⟨_, rfl⟩
    rw [hp] at hE hR
    simp only at hE hR
    subst hR
    have hbne : (er != 0) = true := bne_iff_ne.2 hE
    have hp := Lib.hid hp
    go_enter Try.func4, Try.ntmps4
    go_wp2_with (first | (go_at_call 16; refine (great_any _ _ _ _ _ hl).mono ?_; rintro e w1 ⟨⟨b, rfl, _⟩, hb1⟩; obtain ⟨hz1, hF, hN, hA⟩ := three_cells w _ _ _ hb1; obtain ⟨n1, n2, n3⟩ := cells_three hN; obtain ⟨g1, g2⟩ := cells_two hF) | (go_at_call 17; refine (lives_any _).mono ?_; rintro e wL ⟨rfl, hbL⟩) | (go_at_call 18; refine (choose_any _ _ _ _ n _ (hl.below hb1)).mono ?_; rw [hp.out]; rintro e w2 ⟨A2, c2, rfl, hR2, hb2⟩; have hb12 := hb1.trans (hb2.mono hb1.size)))
    · refine bodyPost_ret (v := .bool true) (by simp [results, Try.results4, go_sem]) rfl ⟨rfl, h0.out.trans ((hb1.trans (hbL.mono hb1.size)).mono h0.out.size)⟩
    · refine bodyPost_ret (v := .bool true) (by simp [results, Try.results4, go_sem]) rfl ⟨rfl, h0.out.trans ((hb12.trans (hbL.mono hb12.size)).mono h0.out.size)⟩
end Go.Proofs.Ytpgkhlpepckfgaa
