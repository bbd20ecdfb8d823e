/-
  straw.Check and its specification's, walked.
-/
import Derived.Test.YtpgkhlpepckfgaaSPure
import Derived.Test.YtpgkhlpepckfgaaMap
namespace Go.Proofs.Ytpgkhlpepckfgaa
open Go.RowKit Go.Lib Go.Maps Go.WideMaps

theorem zeroBool (w : World) : (zeroValue 4).run Try.prog w = .ok (.bool false) w := by kernel_rfl

set_option maxHeartbeats 1000000 in
set_option maxRecDepth 100000 in
theorem check_any (A : Option Addr) (c : Nat) (l : List Plot) (dry : Int) (w : World) (h : RdPlots w A l) :
    Calls Try.prog 25 #[.agg #[.slice A l.length c, .int .i64 dry]] w fun e w' => e = .returned (.int .i64 (checkI l dry)) ∧ Below w.heap.size w w' := by
  have hl := h.1.1
  have hmm := @run_makeMap Try.prog
  by_cases hlong : 12 < l.length
  · have hR := Lib.hid (checkI_long (dry := dry) hlong)
    have hlong' : 12 < (l.length : Int) := by omega
    go_enter Try.func25, Try.ntmps25
    go_wp2
    go_ret
    exact ⟨by rw [hR.out]; rfl, (Below.refl _ _).alloc (Nat.le_refl _) _⟩
  · have hlong' : ¬ 12 < (l.length : Int) := by omega
    go_enter Try.func25, Try.ntmps25
    go_wp2
    clear hlong'
    go_loopw [14] (fun i wr => ∃ k : Nat, i = .int .i64 k ∧ k ≤ l.length ∧ Hid (∀ j, j < k → plotErr l j = 0) ∧ wr.cell? ⟨w.heap.size, 0, none⟩ = some (.slice A l.length c) ∧ wr.cell? ⟨w.heap.size, 1, none⟩ = some (.int .i64 dry) ∧ w.heap.size + 1 < wr.heap.size ∧
      MapIs wr Try.prog 9 (w.heap.size + 1) k (knownM l k) ∧ Below w.heap.size w wr) (fun i _ => l.length - (intOf i).toNat)
    case atStart => exact ⟨0, rfl, by omega, fun j hj => by omega, by simp, by simp, by simp, by rw [knownM_zero]; exact MapIs.made' _ _ _ (by simp), ((Below.refl _ w).alloc (Nat.le_refl _) _).alloc (by simp) _⟩
    case round =>
      obtain ⟨k, rfl, hk, hall, hc0, hc1, hsz, hmap, hB⟩ := hrel
      by_cases hlt : k < l.length
      · obtain ⟨ad, hA, g0, g1, g2, g3, g4, g5, g6, g7, g8⟩ := (h.1.below hB).at9 hlt rfl
        subst hA
        have hn1 := h.name hlt
        have hKey := Lib.hid (keyOf_string_mk Try.underlying9 (s := l[k].name) (Nat.le_trans hn1 (by decide)))
        have hmap := Lib.hid hmap
        cases q1 : nameB l[k].name with
        | false =>
          have hE := Lib.hid (checkI_stop (dry := dry) hlong hlt hall.out (by rw [plotErr_name hlt q1]; decide))
          have hE2 := Lib.hid (plotErr_name hlt q1)
          go_wp2_with (go_at_call 53; refine (isName_any _ _ (by omega)).mono ?_; rintro e w1 ⟨rfl, hb1⟩; obtain ⟨hk1, hf1⟩ := bcell hb1)
          go_ret
          exact ⟨by rw [hE.out, hE2.out]; rfl, hB.trans (((Below.refl _ wr).alloc (Nat.le_refl _) _).trans (hb1.mono (by simp)) |>.mono hB.size)⟩
        | true =>
          cases q2 : hasName l k l[k].name with
          | true =>
            have hE := Lib.hid (checkI_stop (dry := dry) hlong hlt hall.out (by rw [plotErr_twice hlt q1 q2]; decide))
            have hE2 := Lib.hid (plotErr_twice hlt q1 q2)
            have hL := Lib.hid (knownM_get l k l[k].name)
            go_wp2_with (first | (go_at_call 53; refine (isName_any _ _ (by omega)).mono ?_; rintro e w1 ⟨rfl, hb1⟩; obtain ⟨hk1, hf1⟩ := bcell hb1; have hB1 : Below wr.heap.size wr w1 := ((Below.refl _ wr).alloc (Nat.le_refl _) _).trans (hb1.mono (by simp))) | (at_lookup; refine wp_look _ rfl _ _ 102 rfl 9 4 (string_keyed Try.underlying9) Try.underlying102 (.bool false) (zeroBool _) (w.heap.size + 1) k (knownM l k) rfl (hmap.out.below hB1 hsz) (.string l[k].name) _ rfl hKey.out _ hL.out ?_))
            go_ret
            exact ⟨by rw [hE.out, hE2.out]; rfl, hB.trans (hB1.mono hB.size)⟩
          | false =>
            cases q3 : plotOk l[k] with
            | false =>
              have hE := Lib.hid (checkI_stop (dry := dry) hlong hlt hall.out (by rw [plotErr_arg hlt q1 q2 q3]; decide))
              have hE2 := Lib.hid (plotErr_arg hlt q1 q2 q3)
              have hL := Lib.hid (knownM_get l k l[k].name)
              have q3 := Lib.hid q3
              go_wp2_with (first | (go_at_call 53; refine (isName_any _ _ (by omega)).mono ?_; rintro e w1 ⟨rfl, hb1⟩; obtain ⟨hk1, hf1⟩ := bcell hb1; have hB1 : Below wr.heap.size wr w1 := ((Below.refl _ wr).alloc (Nat.le_refl _) _).trans (hb1.mono (by simp)); have hz1 : wr.heap.size < w1.heap.size := by have := hb1.size; simp at this; omega) | (go_at_call 43; refine (in_any _ _ _ _).mono ?_; rintro e w' ⟨rfl, rfl⟩) | (go_at_call 54; refine (grows_any _ _).mono ?_; rintro e w' ⟨rfl, rfl⟩) | (go_at_call 55; refine (spans_any _ _ _ _ _).mono ?_; rintro e w2 ⟨rfl, hb2⟩; obtain ⟨hk2, hf2⟩ := bcell hb2; replace hB1 := hB1.trans (hb2.mono hB1.size); have hz2 := Nat.lt_of_lt_of_le (n := wr.heap.size) (by assumption) hb2.size) | (at_lookup; refine wp_look _ rfl _ _ 102 rfl 9 4 (string_keyed Try.underlying9) Try.underlying102 (.bool false) (zeroBool _) (w.heap.size + 1) k (knownM l k) rfl (hmap.out.below hB1 hsz) (.string l[k].name) _ rfl hKey.out _ hL.out ?_))
              all_goals first
                | (exfalso; have q := q3.out; simp_all [plotOk]; done)
                | (go_ret; exact ⟨by rw [hE.out, hE2.out]; rfl, hB.trans (hB1.mono hB.size)⟩)
            | true =>
              have hS := Lib.hid (below_succ hall.out (plotErr_ok hlt q1 q2 q3))
              have hL := Lib.hid (knownM_get l k l[k].name)
              have hP1 := Lib.hid (knownM_put l k hlt)
              have hP2 := Lib.hid (knownM_other l k hlt)
              simp only [plotOk, Bool.and_eq_true] at q3
              obtain ⟨⟨⟨⟨⟨t1, t2⟩, t3⟩, t4⟩, t5⟩, t6⟩ := q3
              go_wp2_with (first | (go_at_call 53; refine (isName_any _ _ (by omega)).mono ?_; rintro e w1 ⟨rfl, hb1⟩; obtain ⟨hk1, hf1⟩ := bcell hb1; have hB1 : Below wr.heap.size wr w1 := ((Below.refl _ wr).alloc (Nat.le_refl _) _).trans (hb1.mono (by simp)); have hz1 : wr.heap.size < w1.heap.size := by have := hb1.size; simp at this; omega) | (go_at_call 43; refine (in_any _ _ _ _).mono ?_; rintro e w' ⟨rfl, rfl⟩) | (go_at_call 54; refine (grows_any _ _).mono ?_; rintro e w' ⟨rfl, rfl⟩) | (go_at_call 55; refine (spans_any _ _ _ _ _).mono ?_; rintro e w2 ⟨rfl, hb2⟩; obtain ⟨hk2, hf2⟩ := bcell hb2; replace hB1 := hB1.trans (hb2.mono hB1.size); have hz2 := Nat.lt_of_lt_of_le (n := wr.heap.size) (by assumption) hb2.size) | (at_lookup; refine wp_look _ rfl _ _ 102 rfl 9 4 (string_keyed Try.underlying9) Try.underlying102 (.bool false) (zeroBool _) (w.heap.size + 1) k (knownM l k) rfl (hmap.out.below hB1 hsz) (.string l[k].name) _ rfl hKey.out _ hL.out ?_) | (at_mapUpdate; refine wp_store _ rfl _ _ _ 102 (.inl rfl) 9 4 (string_keyed Try.underlying9) Try.underlying102 (w.heap.size + 1) k (knownM l k) rfl (hmap.out.below hB1 hsz) (.string l[k].name) _ _ rfl rfl hKey.out (knownM l (k + 1)) hP1.out (fun x _ _ hx => hP2.out x hx) ?_; intro w9 hmap9 hgrow9))
              have hblk : w9.heap[w.heap.size]? = wr.heap[w.heap.size]? := (hgrow9.block _ (by have := hB1.size; omega) (by simp)).trans (hB1.block _ (by omega))
              have hs9 := hgrow9.size
              have hs1 := hB1.size
              go_roundw
              case rel => exact ⟨k + 1, by go_num, by omega, hS.out, (World.cell?_of_block (a := ⟨w.heap.size, 0, none⟩) hblk).trans hc0, (World.cell?_of_block (a := ⟨w.heap.size, 1, none⟩) hblk).trans hc1, by omega, hmap9, (hB.trans (hB1.mono hB.size)).grown hgrow9 (by omega) (fun k e => by cases e; omega)⟩
              case measure => simp [intOf]; omega
      · obtain rfl : k = l.length := by omega
        have hE := Lib.hid (checkI_end (dry := dry) hlong hall.out)
        cases q : inB dry 0 1000 with
        | true =>
          go_wp2_with (go_at_call 43; refine (in_any _ _ _ _).mono ?_; rintro e w' ⟨rfl, rfl⟩)
          go_ret
          exact ⟨by rw [hE.out, q]; rfl, hB⟩
        | false =>
          go_wp2_with (go_at_call 43; refine (in_any _ _ _ _).mono ?_; rintro e w' ⟨rfl, rfl⟩)
          go_ret
          exact ⟨by rw [hE.out, q]; rfl, hB⟩
end Go.Proofs.Ytpgkhlpepckfgaa
