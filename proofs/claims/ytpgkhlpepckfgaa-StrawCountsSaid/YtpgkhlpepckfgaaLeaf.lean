/-
  The end of one way of straw.Choose's walk: is what was chosen the best yet?
-/
import Derived.Test.YtpgkhlpepckfgaaWS
import Derived.StillTailTactics
import Derived.Deep.QuietTactic
import Derived.BigQuiet
namespace Go.Proofs.Ytpgkhlpepckfgaa
open Go.RowKit Go.Lib Go.Maps

set_option maxHeartbeats 2000000 in
set_option maxRecDepth 100000 in
theorem leaf_any (w0 w : World) (M : Nat) (A : Option Addr) (c : Nat) (plots : List Plot) (dry : Int) (n : Need) (l : List Int) (b : Best) (vl : Value) (paid : Int) (hll : l.length ≤ 12) (hbl : b.choice.length ≤ 12) (hW : WS w0 M w A c plots dry n l b vl) :
    Calls Try.prog 44 (#[.int .i64 plots.length, .int .i64 paid] ++ caps w0.heap.size M) w fun e w' => e = .returned (.tuple #[]) ∧ ∃ vl', WS w0 M w' A c plots dry n l (leafP paid n l b) vl' ∧ Fr w0.heap.size M w vl w' vl' := by
  obtain ⟨m, hm⟩ := hW.mp
  have cf := cell_of_two hW.farm
  have cw := cell_of_one hW.want
  have hm := Lib.hid hm
  have hmx : ∀ (w : World) (ts : Array TypeId) (t : TypeId), (Builtin.max_ ts t #[.int .i64 n.reed, .int .i64 n.straw, .int .i64 n.heather]).run Try.prog w = .ok (.int .i64 (needMax n)) w := fun w ts t => run_max_int3 w ts t .i64 .i64 .i64 n.reed n.straw n.heather
  have hsz := hW.size
  have hM := hW.hM
  have z0 : w0.heap.size < w.heap.size := by omega
  have z2 : w0.heap.size + 2 < w.heap.size := by omega
  have z3 : w0.heap.size + 3 < w.heap.size := by omega
  have z4 : w0.heap.size + 4 < w.heap.size := by omega
  have z7 : M + 2 < w.heap.size := by omega
  obtain ⟨vc, hvl, hrl, hvc, hrc, hap⟩ := hW.rows
  obtain ⟨Al, kl, rfl⟩ := hrl.slice
  obtain ⟨Ac, kc, rfl⟩ := hrc.slice
  have cl := cell_of_one hvl
  have cc := cell_of_one hvc
  have fc := free_of_one hvc
  have cco := cell_of_one hW.cost
  have fco := free_of_one hW.cost
  have ff := free_of_one hW.found
  have hrl := Lib.hid hrl
  have hrc := Lib.hid hrc
  have hap := Lib.hid hap
  have hvl := Lib.hid hvl
  have hvc := Lib.hid hvc
  show Calls Try.prog 44 #[.int .i64 plots.length, .int .i64 paid, ptr w0.heap.size, ptr (M + 1), ptr (w0.heap.size + 4), ptr (w0.heap.size + 3), ptr (M + 2), ptr (w0.heap.size + 2), ptr (M + 3)] w _
  by_cases hpos : 0 < needMax n
  · have hL : Hid (leafP paid n l b = b) := if_pos hpos
    go_enter Try.func44, Try.ntmps44
    go_wp2_with (first | (at_lookup; refine wp_look _ rfl _ _ 93 rfl 74 3 (int_keyed Try.underlying74) Try.underlying93 (.int .i64 0) (zeroInt _) (M) m (needM n) rfl hm.out (.int .i64 1) _ rfl (keyOf_int_mk Try.underlying74 (by decide)) (.int .i64 n.reed) rfl ?_) | (at_lookup; refine wp_look _ rfl _ _ 93 rfl 74 3 (int_keyed Try.underlying74) Try.underlying93 (.int .i64 0) (zeroInt _) (M) m (needM n) rfl hm.out (.int .i64 2) _ rfl (keyOf_int_mk Try.underlying74 (by decide)) (.int .i64 n.straw) rfl ?_) | (at_lookup; refine wp_look _ rfl _ _ 93 rfl 74 3 (int_keyed Try.underlying74) Try.underlying93 (.int .i64 0) (zeroInt _) (M) m (needM n) rfl hm.out (.int .i64 3) _ rfl (keyOf_int_mk Try.underlying74 (by decide)) (.int .i64 n.heather) rfl ?_))
    all_goals
      exact bodyPost_ret (v := .tuple #[]) (by simp [results, Try.results44, go_sem]) rfl ⟨rfl, _, by rw [hL.out]; exact hW, Fr.of_below (Below.refl _ _)⟩
  · have hL : Hid (leafP paid n l b = if b.found = false then ⟨true, paid, l⟩ else if better paid l b < 0 then ⟨true, paid, l⟩ else b) := if_neg hpos
    have hpos2 := Int.not_lt.1 hpos
    have cfd := cell_of_one hW.found
    cases hfd : b.found with
    | false =>
      rw [hfd] at cfd
      have hL2 : Hid (leafP paid n l b = ⟨true, paid, l⟩) := by rw [hL.out, if_pos hfd]; rfl
      have hfd := Lib.hid hfd
      go_enter Try.func44, Try.ntmps44
      go_wp2_with (first | (at_lookup; refine wp_look _ rfl _ _ 93 rfl 74 3 (int_keyed Try.underlying74) Try.underlying93 (.int .i64 0) (zeroInt _) (M) m (needM n) rfl hm.out (.int .i64 1) _ rfl (keyOf_int_mk Try.underlying74 (by decide)) (.int .i64 n.reed) rfl ?_) | (at_lookup; refine wp_look _ rfl _ _ 93 rfl 74 3 (int_keyed Try.underlying74) Try.underlying93 (.int .i64 0) (zeroInt _) (M) m (needM n) rfl hm.out (.int .i64 2) _ rfl (keyOf_int_mk Try.underlying74 (by decide)) (.int .i64 n.straw) rfl ?_) | (at_lookup; refine wp_look _ rfl _ _ 93 rfl 74 3 (int_keyed Try.underlying74) Try.underlying93 (.int .i64 0) (zeroInt _) (M) m (needM n) rfl hm.out (.int .i64 3) _ rfl (keyOf_int_mk Try.underlying74 (by decide)) (.int .i64 n.heather) rfl ?_))
      all_goals
        go_quiet (fail)
        go_wp2_with (first | (go_at_call 48; refine (clone_any (World.drewN w _) (M + 4) _ l (by omega) (SlRow.drewN hrl.out _)).mono ?_; rintro e w1 ⟨A', c', rfl, hrow1, hb1⟩; replace hb1 := below_of_drewN hb1; have e2 := (hb1.cell (p := ⟨w0.heap.size + 2, 0, none⟩) z2).trans cc; have e3 := (hb1.cell (p := ⟨w0.heap.size + 3, 0, none⟩) z3).trans cco; have e4 := (hb1.cell (p := ⟨w0.heap.size + 4, 0, none⟩) z4).trans cfd; have f2 := (hb1.frozen (p := ⟨w0.heap.size + 2, 0, none⟩) z2).trans fc; have f3 := (hb1.frozen (p := ⟨w0.heap.size + 3, 0, none⟩) z3).trans fco; have f4 := (hb1.frozen (p := ⟨w0.heap.size + 4, 0, none⟩) z4).trans ff))
      all_goals
        exact bodyPost_ret (v := .tuple #[]) (by simp [results, Try.results44, go_sem]) rfl ⟨rfl, _, by rw [hL2.out]; exact hW.record hb1 hrow1 paid, Fr.record hb1⟩
    | true =>
      rw [hfd] at cfd
      have hL2 : Hid (leafP paid n l b = if better paid l b < 0 then ⟨true, paid, l⟩ else b) := by rw [hL.out, if_neg (by rw [hfd]; decide)]; rfl
      have hfd := Lib.hid hfd
      obtain ⟨Al', kl', el, rl⟩ := hrl.out.reads (by omega)
      obtain ⟨Ac', kc', ec, rc⟩ := hrc.out.reads (by omega)
      cases el
      cases ec
      have rl := Lib.hid rl
      have rc := Lib.hid rc
      go_enter Try.func44, Try.ntmps44
      go_wp2_with (first | (at_lookup; refine wp_look _ rfl _ _ 93 rfl 74 3 (int_keyed Try.underlying74) Try.underlying93 (.int .i64 0) (zeroInt _) (M) m (needM n) rfl hm.out (.int .i64 1) _ rfl (keyOf_int_mk Try.underlying74 (by decide)) (.int .i64 n.reed) rfl ?_) | (at_lookup; refine wp_look _ rfl _ _ 93 rfl 74 3 (int_keyed Try.underlying74) Try.underlying93 (.int .i64 0) (zeroInt _) (M) m (needM n) rfl hm.out (.int .i64 2) _ rfl (keyOf_int_mk Try.underlying74 (by decide)) (.int .i64 n.straw) rfl ?_) | (at_lookup; refine wp_look _ rfl _ _ 93 rfl 74 3 (int_keyed Try.underlying74) Try.underlying93 (.int .i64 0) (zeroInt _) (M) m (needM n) rfl hm.out (.int .i64 3) _ rfl (keyOf_int_mk Try.underlying74 (by decide)) (.int .i64 n.heather) rfl ?_))
      all_goals
        refine wp_region_still_tail 14 (by kernel_rfl) (by kernel_rfl) ?_
        simp only [List.take_succ_cons, List.take_zero, List.drop_succ_cons, List.drop_zero]
        repeat still_step
        still_call (Try.cmp_Compare_int _ _ _)
        repeat still_step
        still_call (Try.cmp_Compare_int _ _ _)
        repeat still_step
        still_call (cmpS_any _ _ _ _ _ _ _ rl.out rc.out)
        repeat still_step
        try refine wpStill_nil ?_
      all_goals
        change wpList _ _ _ _ _ w.drew
        go_wp2_with (first | (go_at_call 45; refine (or_any (some ⟨w.heap.size, 0, none⟩) 3 [compareInt paid b.cost, compareInt l.length b.choice.length, cmpL l b.choice] _ ?_).mono ?_; (exact rdInts_block (t := 3) (MapKept.heap_alloc w _).1 (by simp)); rintro e w' ⟨rfl, rfl⟩) | (go_at_call 48; refine (clone_any (World.drew (World.alloc w _)) (M + 4) _ l (by omega) (SlRow.below hrl.out (((Below.refl _ w).alloc (Nat.le_refl _) _).drew))).mono ?_; rintro e w1 ⟨A', c', rfl, hrow1, hb1⟩; replace hb1 := Below.trans ((((Below.refl _ w).alloc (Nat.le_refl _) _).drew)) (Below.mono hb1 (by simp)); have e2 := (hb1.cell (p := ⟨w0.heap.size + 2, 0, none⟩) z2).trans cc; have e3 := (hb1.cell (p := ⟨w0.heap.size + 3, 0, none⟩) z3).trans cco; have e4 := (hb1.cell (p := ⟨w0.heap.size + 4, 0, none⟩) z4).trans cfd; have f2 := (hb1.frozen (p := ⟨w0.heap.size + 2, 0, none⟩) z2).trans fc; have f3 := (hb1.frozen (p := ⟨w0.heap.size + 3, 0, none⟩) z3).trans fco; have f4 := (hb1.frozen (p := ⟨w0.heap.size + 4, 0, none⟩) z4).trans ff))
      · have hlt : better paid l b < 0 := ‹_›
        exact bodyPost_ret (v := .tuple #[]) (by simp [results, Try.results44, go_sem]) rfl ⟨rfl, _, by rw [hL2.out, if_pos hlt]; exact hW.record hb1 (ownsRow_raise hrow1 (by simp)) paid, Fr.record hb1⟩
      · have hge : ¬ better paid l b < 0 := Int.not_lt.2 ‹_›
        exact bodyPost_ret (v := .tuple #[]) (by simp [results, Try.results44, go_sem]) rfl ⟨rfl, _, by rw [hL2.out, if_neg hge]; exact hW.later (((Below.refl _ w).alloc (Nat.le_refl _) _).drew), Fr.of_below (((Below.refl _ w).alloc (Nat.le_refl _) _).drew)⟩
end Go.Proofs.Ytpgkhlpepckfgaa
