/-
  The law StrawBundles, walked.
-/
import Derived.Test.YtpgkhlpepckfgaaXs00
import Derived.Test.YtpgkhlpepckfgaaXs01
import Derived.Test.YtpgkhlpepckfgaaXs03
set_option linter.all false
set_option linter.unusedVariables false
set_option linter.unusedSimpArgs false
namespace Go.Proofs.Ytpgkhlpepckfgaa
open Go.RowKit Go.Lib

theorem apart_app {P : List Portion} {wc w1 : World} {A6 : Option Addr} {vo v' : Value} {o : Obj} (hr : RdParts wc A6 P) (ha : ∀ g, vo.ownBlock = some g → blk A6 ≠ some g) (hgrow : (wc.alloc o).grownBy w1 vo.ownBlock) (hnear : ∀ k, v'.ownBlock = some k → vo.ownBlock = some k ∨ (wc.alloc o).heap.size ≤ k) (hne : P ≠ []) :
    RdParts w1 A6 P ∧ ∀ g, v'.ownBlock = some g → blk A6 ≠ some g := by
  refine ⟨hr.keep fun k hl e => (hgrow.block k (by rw [World.size_alloc]; have := hr.lt hl e; omega) (fun e2 => ha k e2.symm e)).trans (Below.heap_alloc _ _ _ (hr.lt hl e)), fun g hg e => ?_⟩
  rcases hnear g hg with h1 | h1
  · exact ha g h1 e
  · rw [World.size_alloc] at h1
    have := hr.lt hne e
    omega
theorem apart_set {P : List Portion} {wc : World} {A6 : Option Addr} {g i : Nat} {x : Value} (hr : RdParts wc A6 P) (ha : blk A6 ≠ some g) : RdParts ((wc.setCell ⟨g, i, none⟩ x).drew) A6 P :=
  RdParts.below (hr.keep fun k hl e => Below.heap_setCell _ _ _ _ (fun e2 => ha (by rw [e]; exact congrArg some e2))) ((Below.refl _ _).drew)

set_option maxHeartbeats 4000000 in
set_option maxRecDepth 100000 in
theorem bun_any (A : Option Addr) (c : Nat) (pl : List Plot) (dry : Int) (B : Option Addr) (cb : Nat) (l : List Chore) (w : World) (h : RdPlots w A pl) (hl : RdChores w B l) :
    Calls Try.prog 15 #[.agg #[.slice A pl.length c, .int .i64 dry], .slice B l.length cb] w fun e w' => e = .returned (.bool true) ∧ Below w.heap.size w w' := by
  obtain ⟨W0, hW0⟩ : ∃ W0, W0 = (w.alloc (.cells #[.slice A pl.length c, .int .i64 dry] 24)) := ⟨_, rfl⟩
  have hX0 : Hid (LF w A c pl dry W0) := by rw [hW0]; exact LF.make
  obtain ⟨p0, p1⟩ := cells2 hX0.out.farm
  go_enter Try.func15, Try.ntmps15
  go_upto_region 1 with fail
  rw [← hW0]
  replace hW0 := Lib.hid hW0
  by_cases h40 : 40 < l.length
  · as_aux_lemma =>
      go_wp2_with (first | (go_at_call 16; refine (great_any _ _ pl _ _ (h.below hX0.out.below)).mono ?_; rintro e w1 ⟨⟨b, rfl, hgr⟩, hb1⟩; have hX1 := Lib.hid (hX0.out.later hb1)) | (go_at_call 39; refine (long_any _ _ l _ (hl.below hX1.out.below)).mono ?_; rintro e w2 ⟨⟨b2, rfl, hlg⟩, hb2⟩; have hX2 := Lib.hid (hX1.out.later hb2)) | (go_at_call 17; refine (lives_any _).mono ?_; rintro e wL ⟨rfl, hbL⟩))
      all_goals go_ret
      all_goals first
        | exact ⟨rfl, (hX2.out.later hbL).below⟩
        | exact ⟨rfl, (hX1.out.later hbL).below⟩
  · have c42 : Hid (∀ W, LF w A c pl dry W → Calls Try.prog 42 #[.agg #[.slice A pl.length c, .int .i64 dry], .slice B l.length cb] W (AfterOut pl dry W)) := fun W hW => after_any A c pl dry B cb l W (h.below hW.below) (hl.below hW.below) (by omega)
    go_wp2_with (first | (go_at_call 16; refine (great_any _ _ pl _ _ (h.below hX0.out.below)).mono ?_; rintro e w1 ⟨⟨b, rfl, hgr⟩, hb1⟩; have hX1 := Lib.hid (hX0.out.later hb1)) | (go_at_call 39; refine (long_any _ _ l _ (hl.below hX1.out.below)).mono ?_; rintro e w2 ⟨⟨b2, rfl, hlg⟩, hb2⟩; have hX2 := Lib.hid (hX1.out.later hb2); obtain ⟨k0, k1⟩ := cells2 hX2.out.farm) | (go_at_call 17; refine (lives_any _).mono ?_; rintro e wL ⟨rfl, hbL⟩))
    · go_ret
      exact ⟨rfl, (hX1.out.later hbL).below⟩
    · go_ret
      exact ⟨rfl, (hX2.out.later hbL).below⟩
    go_at_call 42
    (with_reducible refine (c42.out _ hX2.out).mono ?_)
    rintro e w3 ⟨s, ok, rfl, hok, hb3⟩
    have hX3 := Lib.hid (hX2.out.later hb3)
    replace hok := Lib.hid hok
    clear p0 p1 k0 k1 hb1 hb2 hb3 c42 hgr hlg
    go_upto_region 4 with fail
    obtain ⟨ws, hws⟩ : ∃ x, x = w3.alloc (.cells (storeCells s) 43) := ⟨_, rfl⟩
    obtain ⟨bs, hbs⟩ : ∃ x, x = w3.heap.size := ⟨_, rfl⟩
    rw [← hws, ← hbs]
    have hbw : Below w3.heap.size w3 ws := by rw [hws]; exact (Below.refl _ w3).alloc (Nat.le_refl _) _
    have hxs : ws.heap[bs]? = some (.cells (storeCells s) 43 (0, 0)) := by rw [hws, hbs]; exact heap_new _ _ _ rfl
    have hXs := Lib.hid (hX3.out.later hbw)
    cases ok with
    | false =>
      replace hws := Lib.hid hws
      replace hbs := Lib.hid hbs
      replace hxs := Lib.hid hxs
      go_wp2_with (go_at_call 17; refine (lives_any _).mono ?_; rintro e wL ⟨rfl, hbL⟩)
      go_ret
      exact ⟨rfl, (hXs.out.later hbL).below⟩
    | true =>
      obtain ⟨hck, hrs3⟩ := hok.out rfl
      have hP : Hid (PX w A c pl dry [(bs, s)] ws) := ⟨hXs.out, fun p hp => by
        rw [List.mem_singleton] at hp
        subst hp
        exact ⟨hxs, hrs3.below hbw⟩⟩
      clear hrs3 hok hbw hxs hXs hX3 hX2 hX1 hX0
      replace hws := Lib.hid hws
      replace hbs := Lib.hid hbs
      have hO := check_ok hck
      have hG := Lib.hid (good_do hck (by have := hO.lens.1; omega) (by have := hO.lens.2.1; omega) (fun x hx => by have := hO.lens.2.2 x hx; omega))
      have hhl := hO.hlen
      have hln := hO.lens
      have c32 : Hid (∀ (W : World) (nm : ByteArray) (k : Int), PX w A c pl dry [(bs, s)] W → Calls Try.prog 32 #[.agg #[.slice A pl.length c, .int .i64 dry], storeVal s, .string nm, .int .i64 k] W (BundOutF (bundleP pl dry s nm k) W)) := fun W nm k hW => bundleF_any A c pl dry s nm k W (h.below hW.lf.below) (hW.has (bs, s) (by simp)).rd (by omega) (by omega) (fun x hx => by have := hln.2.2 x hx; omega)
      replace hln := Lib.hid hln
      replace hO := Lib.hid hO
      go_wp2_with fail
      go_loopw [7] (fun i wr => ∃ i' : Nat, i = .int .i64 i' ∧ i' ≤ s.heaps.length ∧ Hid (Below ws.heap.size ws wr)) (fun i _ => s.heaps.length - (intOf i).toNat)
      case atStart => exact ⟨0, rfl, Nat.zero_le _, Below.refl _ ws⟩
      case round =>
        obtain ⟨i', rfl, hi, hbi⟩ := hrel
        have hPi := Lib.hid (hP.out.later hbi.out)
        by_cases hil : i' < s.heaps.length
        · have hS := hPi.out.has (bs, s) (by simp)
          obtain ⟨m0, m1, m2, m3, m4, m5⟩ := six_cells hS.cells
          obtain ⟨ad, hA, y0, y1, y2, y3, y4, y5, y6⟩ := hS.rd.heaps.1.at7 hil rfl
          have hpr := (hS.rd.heaps.2 _ (List.getElem_mem hil)).1
          obtain ⟨H, hH⟩ : ∃ H, H = s.heaps[i'] := ⟨_, rfl⟩
          rw [← hH] at y0 y1 y2 y3 y4 y5 y6 hpr
          have hHg : H = s.heaps.getD i' default := by rw [getD_lt _ hil]; exact hH
          have hask := fun k => bun_ask (pl := pl) (dry := dry) hck hil k
          rw [← hHg] at hask
          have hOH := hO.out.heaps _ (getD_memH hil)
          rw [← hHg] at hOH
          have hmi := hG.out.heaps.2 _ (List.getElem_mem hil)
          rw [← hH] at hmi
          replace hask := Lib.hid hask
          replace hOH := Lib.hid hOH
          rw [hA] at m3
          clear hS hHg
          replace hH := Lib.hid hH
          replace hA := Lib.hid hA
          go_upto_region 10 with fail
          obtain ⟨wh, hwh⟩ : ∃ x, x = wr.alloc (.cells (hcells H) 77) := ⟨_, rfl⟩
          obtain ⟨bh, hbh⟩ : ∃ x, x = wr.heap.size := ⟨_, rfl⟩
          unfold hcells at hwh
          rw [← hwh, ← hbh]
          have hbw : Below wr.heap.size wr wh := by rw [hwh]; exact (Below.refl _ wr).alloc (Nat.le_refl _) _
          have hxh : wh.heap[bh]? = some (.cells (hcells H) 77 (0, 0)) := by rw [hwh, hbh]; exact heap_new _ _ _ rfl
          have hPh := Lib.hid (hPi.out.later hbw)
          have hph := Lib.hid (hpr.below hbw)
          have hBh := Lib.hid (hbi.out.trans (hbw.mono hbi.out.size))
          clear m0 m1 m2 m3 m4 m5 y0 y1 y2 y3 y4 y5 y6 hbw hpr hPi
          replace hwh := Lib.hid hwh
          replace hbh := Lib.hid hbh
          obtain ⟨y0, y1, y2, y3, y4, y5, y6⟩ := seven_cells hxh
          obtain ⟨m0, m1, m2, m3, m4, m5⟩ := six_cells (hPh.out.has (bs, s) (by simp)).cells
          obtain ⟨k0, k1⟩ := cells2 hPh.out.lf.farm
          have c0 := c32.out wh H.name 0 hPh.out
          rw [hask.out] at c0
          replace c0 := Lib.hid c0
          replace hxh := Lib.hid hxh
          go_wp2_with fail
          go_at_call 32
          by_cases h3 : H.stage = 3
          · have h3b : (H.stage == 3) = true := by simpa using h3
            have h3c : (H.stage != 3) = false := by simpa using h3
            obtain ⟨⟨pe1, pe2⟩, pem⟩ := hOH.out.bound h3
            have hps := hOH.out.parts.2.1
            have hsl := hln.out
            obtain ⟨tot, htot⟩ : ∃ z, z = sumL H.parts := ⟨_, rfl⟩
            have ht0 : 0 < tot := by
              rw [htot]
              have h1 := hps.len
              have h2 := hOH.out.some
              have h3 : 0 < H.parts.length := List.length_pos_iff.2 h2
              omega
            have ht1 : tot ≤ 100000 := by
              have := (hO.out.sums.2.2.2.2.2 _ (getD_memH hil)).2
              rw [getD_lt _ hil, ← hH.out, ← htot] at this
              exact this
            obtain ⟨mb, hmb, hmb1⟩ : ∃ mb : Nat, tot = (mb : Int) * H.per ∧ 1 ≤ mb := by
              have h1 := Int.mul_ediv_add_emod tot H.per
              rw [htot, pem, Int.add_zero, ← htot] at h1
              have h2 : 0 ≤ tot / H.per := Int.ediv_nonneg (by omega) (by omega)
              have h4 : tot / H.per ≠ 0 := fun e => by rw [e] at h1; omega
              exact ⟨(tot / H.per).toNat, by rw [Int.toNat_of_nonneg h2, Int.mul_comm]; exact h1.symm, by omega⟩
            have hmbl : mb ≤ 100000 := by
              have h1 : (mb : Int) * 1 ≤ (mb : Int) * H.per := Int.mul_le_mul_of_nonneg_left (by omega) (by omega)
              omega
            have hmb0 : (0 : Int) ≤ (mb : Int) - 1 := Int.sub_nonneg_of_le (Int.ofNat_le.2 hmb1)
            have hwmb : wrap64 (mb : Int) = (mb : Int) := by unfold wrap64; omega
            have hdiv : tot / H.per = (mb : Int) := by rw [hmb]; exact Int.mul_ediv_cancel _ (by omega)
            have hask0 : ∀ k : Int, bundleP pl dry s H.name k = if inB k 0 ((mb : Int) - 1) = false then ([], 1) else (cutF (cutR H.parts (k * H.per)) H.per, 0) := fun k => by
              rw [hask.out, if_neg (by simp [h3]), ← htot, hdiv]
            have hc1 := c0.out
            rw [if_neg (by simp [h3]), ← htot, hdiv, if_neg (by rw [inB_true (Int.le_refl 0) hmb0]; decide)] at hc1
            (with_reducible refine hc1.mono ?_)
            rintro e w5 ⟨A5, c5, rfl, _, hb5, _⟩
            have hx5 := (hb5.block bh (Array.getElem?_eq_some_iff.1 hxh.out).1).trans hxh.out
            have hB5 := Lib.hid (hBh.out.trans (hb5.mono hBh.out.size))
            have hP5 := Lib.hid (hPh.out.later hb5)
            have hr5 := hph.out.below hb5
            clear m0 m1 m2 m3 m4 m5 y0 y1 y2 y3 y4 y5 y6 k0 k1 hc1 c0 hb5 hxh hph
            obtain ⟨y0, y1, y2, y3, y4, y5, y6⟩ := seven_cells hx5
            have c41 : Calls Try.prog 41 #[.slice H.pa H.parts.length H.pc, .int .i64 (-1)] w5 fun e w' => e = .returned (.int .i64 tot) ∧ w5 = w' := htot ▸ lsum_all H.pa H.pc H.parts w5 hr5 hmi
            have hr5h := Lib.hid hr5
            clear hr5
            replace c41 := Lib.hid c41
            replace hx5 := Lib.hid hx5
            have hmt : tot.tmod H.per = 0 := by rw [hmb]; exact Int.mul_tmod_left _ _
            have hdt : tot.tdiv H.per = (mb : Int) := by rw [hmb]; exact Int.mul_tdiv_cancel _ (by omega)
            have hpz : ¬ H.per = 0 := by omega
            replace h3 := Lib.hid h3
            replace htot := Lib.hid htot
            replace hmb := Lib.hid hmb
            replace hdiv := Lib.hid hdiv
            replace pem := Lib.hid pem
            replace hask0 := Lib.hid hask0
            go_wp2_with (go_at_call 41; (with_reducible refine c41.out.mono ?_); rintro e wk' ⟨rfl, rfl⟩)
            go_loopw [12, 13] (fun v i wr => ∃ (k : Nat) (v' : Value), v = v' ∧ i = .int .i64 k ∧ k ≤ min mb 300 ∧ Hid (BehI w5 (bunG H.parts H.per k) v' wr)) (fun _ i _ => min mb 300 - (intOf i).toNat)
            case atStart => exact ⟨0, _, rfl, rfl, Nat.zero_le _, ⟨Below.refl _ _, by rw [bunG_zero hps]; exact World.ownsRow_nil _ _ _ _⟩⟩
            case round =>
              obtain ⟨k, v, hv, rfl, hk, hR⟩ := hrel
              subst hv
              clear y0 y1 y2 y3 y4 y5 y6 c41
              have hxr := (hR.out.below.block bh (Array.getElem?_eq_some_iff.1 hx5.out).1).trans hx5.out
              obtain ⟨y0, y1, y2, y3, y4, y5, y6⟩ := seven_cells hxr
              have hPr := Lib.hid (hP5.out.later hR.out.below)
              obtain ⟨m0, m1, m2, m3, m4, m5⟩ := six_cells (hPr.out.has (bs, s) (by simp)).cells
              obtain ⟨k0, k1⟩ := cells2 hPr.out.lf.farm
              by_cases hkl : k < min mb 300
              · have hka : k < mb := by omega
                have hkb : k < 300 := by omega
                have hka' : (k : Int) < (mb : Int) := by omega
                have hkb' : (k : Int) < 300 := by omega
                have hk1e : ((k : Int) + 1) * H.per ≤ sumL H.parts := by
                  rw [← htot.out, hmb.out]
                  exact Int.mul_le_mul_of_nonneg_right (by omega) (by omega)
                have hsum := bun_sum hps (per := H.per) (by omega) hk1e
                have hgs := bunG_succ hps (per := H.per) (by omega) k
                obtain ⟨g1, g2⟩ := bunG_law hps (per := H.per) (by omega) k
                rw [← htot.out] at g2
                have hkn : 0 ≤ (k : Int) * H.per := Int.mul_nonneg (by omega) (by omega)
                have hcp := (cut_law _ H.per (cut_law _ _ hps hkn).posR (by omega)).posF
                obtain ⟨P, hPe⟩ : ∃ P, P = cutF (cutR H.parts ((k : Int) * H.per)) H.per := ⟨_, rfl⟩
                have ck := c32.out wr H.name (k : Int) hPr.out
                rw [hask0.out, if_neg (by rw [inB_true (show (0 : Int) ≤ (k : Int) by omega) (show (k : Int) ≤ (mb : Int) - 1 by omega)]; decide), ← hPe] at ck
                rw [← hPe] at hsum hgs hcp
                obtain ⟨o0, ho0⟩ : ∃ o0, o0 = bunG H.parts H.per k := ⟨_, rfl⟩
                rw [← ho0] at hgs g1 g2 hR
                have hbd := fun m => behind_bd g1 hcp (N := 100100) (by omega) m
                have hPl := hcp.len
                have hPle := hcp.le
                have hmP : Mild P := ⟨by omega, fun x hx => ⟨by have := hcp x hx; omega, by have := hPle x hx; omega⟩⟩
                replace ck := Lib.hid ck
                replace hgs := Lib.hid hgs
                replace hPe := Lib.hid hPe
                replace ho0 := Lib.hid ho0
                replace hbd := Lib.hid hbd
                replace hk1e := Lib.hid hk1e
                clear hkn g2
                go_wp2_with fail
                go_at_call 32
                (with_reducible refine ck.out.mono ?_)
                rintro e w6 ⟨A6, c6, rfl, hr6, hb6, hf6⟩
                have hap : Hid (∀ g, u12.ownBlock = some g → blk A6 ≠ some g) := fun g hg e => by
                  have h1 := (hR.out.row.lt g hg).2
                  have h2 := hf6 g e
                  omega
                have hR6 := Lib.hid (hR.out.later hb6)
                have hx6 := (hb6.block bh (Array.getElem?_eq_some_iff.1 hxr).1).trans hxr
                clear m0 m1 m2 m3 m4 m5 y0 y1 y2 y3 y4 y5 y6 k0 k1 ck hb6 hxr hR hPr
                obtain ⟨y0, y1, y2, y3, y4, y5, y6⟩ := seven_cells hx6
                have hq41 : ∀ nn, Calls Try.prog 41 #[.slice A6 P.length c6, .int .i64 (-1)] (w6.drewN nn) fun e w' => e = .returned (.int .i64 H.per) ∧ w' = w6.drewN nn := fun nn => (lsum_all A6 c6 P _ (hr6.below (below_drewN_ _ _)) hmP).mono fun e w' q => ⟨by rw [q.1, hsum], q.2.symm⟩
                replace hsum := Lib.hid hsum
                replace hr6 := Lib.hid hr6
                replace hq41 := Lib.hid hq41
                replace hx6 := Lib.hid hx6
                go_upto_region 22 with fail
                go_big_quiet (first | (go_at_call 41; with_reducible exact Calls.quiet_of_same (hq41.out _)))
                obtain ⟨w7, hw7⟩ : ∃ x, x = w6.drewN nq := ⟨_, rfl⟩
                rw [← hw7]
                have hb7 : Below w6.heap.size w6 w7 := by rw [hw7]; exact below_drewN_ _ _
                have hR7 := Lib.hid (hR6.out.later hb7)
                have hr7 := Lib.hid (hr6.out.below hb7)
                clear hb7 y0 y1 y2 y3 y4 y5 y6 hq41 hR6 hr6
                replace hw7 := Lib.hid hw7
                go_wp2_with fail
                go_loopw [12, 16] (fun u i wr => ∃ (m : Nat) (v : Value), u = v ∧ i = .int .i64 m ∧ m ≤ P.length ∧ Hid (BehI w5 (behindP o0 (P.take m)) v wr) ∧ Hid (RdParts wr A6 P) ∧ Hid (∀ g, v.ownBlock = some g → blk A6 ≠ some g)) (fun _ i _ => P.length - (intOf i).toNat)
                case atStart => exact ⟨0, _, rfl, rfl, Nat.zero_le _, hR7, hr7, hap⟩
                case round =>
                  as_aux_lemma =>
                    obtain ⟨m, v', hv', rfl, hm, hRm, hrm, ham⟩ := hrel
                    subst hv'
                    clear hR7 hr7 hap
                    by_cases hml : m < P.length
                    · obtain ⟨ap, hAp, p0, p1⟩ := FlatRow.at2 hrm.out hml rfl
                      have hts := List.take_succ_eq_append_getElem hml
                      have hT := behindP_snoc o0 (P.take m) P[m]
                      rw [← hts] at hT
                      obtain ⟨q1, q2⟩ := hmP.2 _ (List.getElem_mem hml)
                      obtain ⟨n1, n2⟩ := hbd.out m
                      obtain ⟨Q0, hQ0⟩ : ∃ Q0, Q0 = P[m] := ⟨_, rfl⟩
                      rw [← hQ0] at p0 p1 q1 q2 hT
                      obtain ⟨pp, hpp⟩ : ∃ pp, pp = Q0.plot := ⟨_, rfl⟩
                      obtain ⟨ll, hll⟩ : ∃ ll, ll = Q0.loads := ⟨_, rfl⟩
                      rw [← hpp] at p0
                      rw [← hll] at p1 q1 q2
                      obtain ⟨o, ho⟩ : ∃ o, o = behindP o0 (P.take m) := ⟨_, rfl⟩
                      rw [← ho] at hRm hT n1 n2
                      have hPe' : Hid (Q0 = ⟨pp, ll⟩) := by unfold Hid; rw [hpp, hll]
                      subst hAp
                      have hPm : Hid (encPortion P[m] = [.int .i64 pp, .int .i64 ll]) := by unfold Hid; rw [← hQ0, hPe'.out]; rfl
                      replace hQ0 := Lib.hid hQ0
                      clear hpp hll hts ho
                      have hz63 : Hid (o.length + 1 ≤ maxLen) := by unfold Hid maxLen; omega
                      have hzby : Hid ((o.length + 1) * 16 ≤ 140737488355328) := by unfold Hid; omega
                      have hPn := hmP.1
                      by_cases hz : o.length = 0
                      · as_aux_lemma =>
                          have hoe : o = [] := List.eq_nil_of_length_eq_zero hz
                          subst hoe
                          obtain ⟨A2, c2, rfl⟩ := hRm.out.row.slice
                          have hT2 : Hid (behindP o0 (P.take (m + 1)) = [] ++ [Q0]) := hT.trans (addPart_end (.inl rfl))
                          clear hT hz
                          go_upto_region 27 with fail
                          go_big_quiet (fail)
                          obtain ⟨wc, hwc⟩ : ∃ wc, wc = wr.drewN nq := ⟨_, rfl⟩
                          rw [← hwc]
                          have hbc : Below wr.heap.size wr wc := by rw [hwc]; exact below_drewN_ _ _
                          obtain ⟨rb, sb⟩ := bcell hbc
                          have hR2 := Lib.hid (hRm.out.later hbc)
                          have hrm2 := Lib.hid (hrm.out.below hbc)
                          obtain ⟨ap2, hap2, p2, p3⟩ := FlatRow.at2 hrm2.out hml hPm.out
                          cases hap2
                          replace hwc := Lib.hid hwc
                          have hnew := Lib.hid (new_two wc ⟨pp, ll⟩)
                          have hbase : Hid (w5.heap.size ≤ (wc.alloc (.cells #[.int .i64 pp, .int .i64 ll] 91)).heap.size) := by unfold Hid; rw [World.size_alloc]; have := hR2.out.below.size; omega
                          go_wp2_with (at_builtin; refine wp_app _ rfl (.tmp 146) (.tmp 151) 41 rfl w5.heap.size 91 2 16 Try.underlying41 info91 rfl (by decide) _ _ _ rfl (hR2.out.later ((Below.refl _ _).alloc (Nat.le_refl _) _)).row ⟨wc.heap.size, 0, none⟩ 1 1 [.int .i64 pp, .int .i64 ll] rfl rfl hnew.out (by simp [Value.oneCell']) hz63.out hzby.out hbase.out ?_; intro v' w1 hown hgrow hnear; have hP := Lib.hid ((hR2.out.later ((Below.refl _ _).alloc (Nat.le_refl _) _)).push ⟨pp, ll⟩ hown hgrow); have hap3 := Lib.hid (apart_app hrm2.out ham.out hgrow hnear (List.ne_nil_of_length_pos (by omega))); clear hown hgrow hnear)
                          exact ⟨⟨m + 1, _, rfl, by go_num, by omega, by unfold Hid; rw [hT2.out, hPe'.out]; exact hP.out, hap3.out.1, hap3.out.2⟩, by simp only [intOf]; omega⟩
                      · obtain ⟨m', hmo⟩ : ∃ m', o.length = m' + 1 := ⟨o.length - 1, by omega⟩
                        obtain ⟨g, cap, rfl, c0, c1, f1, gs⟩ := hRm.out.cells hmo
                        obtain ⟨Q, hQ⟩ : ∃ Q, Q = o[m']'(by omega) := ⟨_, rfl⟩
                        obtain ⟨qp, hqp⟩ : ∃ qp, qp = Q.plot := ⟨_, rfl⟩
                        obtain ⟨ql, hql⟩ : ∃ ql, ql = Q.loads := ⟨_, rfl⟩
                        rw [← hQ, ← hqp] at c0
                        rw [← hQ, ← hql] at c1
                        have hq := n2 Q (by rw [hQ]; exact List.getElem_mem _)
                        rw [← hql] at hq
                        have hQ' : Hid (o[m']'(by omega) = ⟨qp, ql⟩) := by unfold Hid; rw [← hQ, hqp, hql]
                        have hml' : m' < 100000000 := by omega
                        by_cases he : qp = pp
                        · as_aux_lemma =>
                            have heb : (qp == pp) = true := by simpa using he
                            have hT2 : Hid (behindP o0 (P.take (m + 1)) = o.set m' ⟨qp, ql + ll⟩) := by
                              unfold Hid
                              rw [hT, addPart_last hmo (by rw [hQ'.out, hPe'.out]; exact he), hQ'.out, hPe'.out]
                            have hwr : IntKind.i64.wrap (ql + ll) = ql + ll := IntWalk.i64_in _ (by omega)
                            replace he := Lib.hid he
                            clear hQ hqp hql hT
                            go_upto_region 27 with fail
                            go_big_quiet (fail)
                            obtain ⟨wc, hwc⟩ : ∃ wc, wc = wr.drewN nq := ⟨_, rfl⟩
                            rw [← hwc]
                            have hbc : Below wr.heap.size wr wc := by rw [hwc]; exact below_drewN_ _ _
                            obtain ⟨rb, sb⟩ := bcell hbc
                            have hR2 := Lib.hid (hRm.out.later hbc)
                            have hrm2 := Lib.hid (hrm.out.below hbc)
                            obtain ⟨ap2, hap2, p2, p3⟩ := FlatRow.at2 hrm2.out hml hPm.out
                            cases hap2
                            replace hwc := Lib.hid hwc
                            go_wp2
                            go_region
                            all_goals
                              go_wp2
                              have hP := hR2.out.turn hmo (ql + ll)
                              rw [hQ'.out] at hP
                              exact ⟨⟨m + 1, _, rfl, by go_num, by omega, by unfold Hid; rw [hT2.out]; exact hP.later ((Below.refl _ _).drew), apart_set hrm2.out (ham.out g rfl), ham⟩, by simp only [intOf]; omega⟩
                        · as_aux_lemma =>
                            have heb : (qp == pp) = false := by simpa using he
                            have hT2 : Hid (behindP o0 (P.take (m + 1)) = o ++ [Q0]) := by
                              unfold Hid
                              rw [hT, addPart_end (.inr (by
                                have e : o.length - 1 = m' := by omega
                                rw [e, getD_lt _ (by omega), hQ'.out, hPe'.out]; exact he))]
                            replace he := Lib.hid he
                            clear hQ hqp hql hT
                            go_upto_region 27 with fail
                            go_big_quiet (fail)
                            obtain ⟨wc, hwc⟩ : ∃ wc, wc = wr.drewN nq := ⟨_, rfl⟩
                            rw [← hwc]
                            have hbc : Below wr.heap.size wr wc := by rw [hwc]; exact below_drewN_ _ _
                            obtain ⟨rb, sb⟩ := bcell hbc
                            have hR2 := Lib.hid (hRm.out.later hbc)
                            have hrm2 := Lib.hid (hrm.out.below hbc)
                            obtain ⟨ap2, hap2, p2, p3⟩ := FlatRow.at2 hrm2.out hml hPm.out
                            cases hap2
                            replace hwc := Lib.hid hwc
                            have hnew := Lib.hid (new_two wc ⟨pp, ll⟩)
                            have hbase : Hid (w5.heap.size ≤ (wc.alloc (.cells #[.int .i64 pp, .int .i64 ll] 91)).heap.size) := by unfold Hid; rw [World.size_alloc]; have := hR2.out.below.size; omega
                            go_wp2_with (at_builtin; refine wp_app _ rfl (.tmp 146) (.tmp 151) 41 rfl w5.heap.size 91 2 16 Try.underlying41 info91 rfl (by decide) _ _ _ rfl (hR2.out.later ((Below.refl _ _).alloc (Nat.le_refl _) _)).row ⟨wc.heap.size, 0, none⟩ 1 1 [.int .i64 pp, .int .i64 ll] rfl rfl hnew.out (by simp [Value.oneCell']) hz63.out hzby.out hbase.out ?_; intro v' w1 hown hgrow hnear; have hP := Lib.hid ((hR2.out.later ((Below.refl _ _).alloc (Nat.le_refl _) _)).push ⟨pp, ll⟩ hown hgrow); have hap3 := Lib.hid (apart_app hrm2.out ham.out hgrow hnear (List.ne_nil_of_length_pos (by omega))); clear hown hgrow hnear)
                            exact ⟨⟨m + 1, _, rfl, by go_num, by omega, by unfold Hid; rw [hT2.out, hPe'.out]; exact hP.out, hap3.out.1, hap3.out.2⟩, by simp only [intOf]; omega⟩
                    · go_wp2_with fail
                      have hme : m = P.length := by omega
                      subst hme
                      have hfin := hRm.out
                      rw [List.take_length, ← hgs.out] at hfin
                      replace hfin := Lib.hid hfin
                      exact ⟨⟨k + 1, _, rfl, by go_num, by omega, hfin⟩, by simp only [intOf]; omega⟩
              · as_aux_lemma =>
                  obtain ⟨A2, c2, rfl⟩ := hR.out.row.slice
                  have hkm : k = min mb 300 := by omega
                  have hgl := (bunG_law hps (per := H.per) (by omega) k)
                  have hgn := hgl.1.len
                  rw [← htot.out] at hgl
                  have hR5 := hr5h
                  have ce : Hid (∀ W (nn : Int), PX w A c pl dry [(bs, s)] W → nn = (mb : Int) → Calls Try.prog 32 #[.agg #[.slice A pl.length c, .int .i64 dry], storeVal s, .string H.name, .int .i64 nn] W (BundOutF ([], 1) W)) := fun W nn hW hnn => by
                    subst hnn
                    have := c32.out W H.name (mb : Int) hW
                    rw [hask0.out, if_pos (inB_false (by omega))] at this
                    exact this
                  have hS0 : Hid (PX w A c pl dry [(bs, s)] wr ∧ wr.heap[bh]? = some (.cells (hcells H) 77 (0, 0))) := ⟨hPr.out, hxr⟩
                  have hall : Hid (mb ≤ 300 → bunG H.parts H.per k = H.parts) := fun e => bunG_all hps hOH.out.parts.2.2 (by rw [← htot.out, hmb.out]; congr 1; omega)
                  have hglen : (bunG H.parts H.per k).length ≤ 1000000 := by have := hgl.2; omega
                  obtain ⟨ga, hga⟩ : ∃ ga, ga = bunG H.parts H.per k := ⟨_, rfl⟩
                  rw [← hga] at hR hall hglen
                  rw [← hga]
                  replace hga := Lib.hid hga
                  clear hgl hgn hxr hPr
                  have hn12 : ¬ k < mb ∨ ¬ k < 300 := by omega
                  by_cases h300 : mb ≤ 300
                  all_goals
                    rcases hn12 with hn1 | hn1
                  all_goals try (exfalso; omega)
                  all_goals
                    go_upto_region 30 with fail
                    obtain ⟨wq, hwq⟩ : ∃ x, x = wr.drew := ⟨_, rfl⟩
                    have hbq : Below wr.heap.size wr wq := by rw [hwq]; exact below_drewN_ wr 1
                    have hSq : Hid (PX w A c pl dry [(bs, s)] wq ∧ wq.heap[bh]? = some (.cells (hcells H) 77 (0, 0))) := ⟨hS0.out.1.later hbq, (hbq.block bh (Array.getElem?_eq_some_iff.1 hS0.out.2).1).trans hS0.out.2⟩
                    have hRq := Lib.hid (hR.out.later hbq)
                    have hcl := Lib.hid (fun W (hW : PX w A c pl dry [(bs, s)] W ∧ W.heap[bh]? = some (.cells (hcells H) 77 (0, 0))) => And.intro (cells2 hW.1.lf.farm) (And.intro (six_cells (hW.1.has (bs, s) (by simp)).cells) (seven_cells hW.2)))
                    clear y0 y1 y2 y3 y4 y5 y6 m0 m1 m2 m3 m4 m5 k0 k1 hbq
                    refine wp_region_tree (fun W => PX w A c pl dry [(bs, s)] W ∧ W.heap[bh]? = some (.cells (hcells H) 77 (0, 0))) (.read 0 (.read 1 (.pure 2 (.read 3 (.pure 4 (.pure 5 (.read 6 (.pure 7 (.one 8 (.pure 9 (.pure 10 (.pure 11 (.pure 12 .done))))))))))))) [] (by kernel_rfl) (by kernel_rfl) (by rw [← hwq]; exact hSq.out) ?_
                    rw [← hwq]
                    replace hwq := Lib.hid hwq
                    refine wpTree_take (v := ?_) rfl (by rfl) ?_ (fun _ _ _ h => h) ?_
                    rotate_left
                    focus (intro w' hSw; obtain ⟨⟨k0, k1⟩, ⟨j0, j1, j2, j3, j4, j5⟩, z0, z1, z2, z3, z4, z5, z6⟩ := hcl.out _ hSw; clear hSw; (try simp only [List.getElem_toArray, List.getElem_cons_zero, List.getElem_cons_succ]); go_simp; try with_reducible rfl)
                    simp only [List.getElem_toArray, List.getElem_cons_zero, List.getElem_cons_succ, Act.put, List.setIfInBounds_toArray, List.set_cons_zero, List.set_cons_succ]
                    refine wpTree_take (v := ?_) rfl (by rfl) ?_ (fun _ _ _ h => h) ?_
                    rotate_left
                    focus (intro w' hSw; obtain ⟨⟨k0, k1⟩, ⟨j0, j1, j2, j3, j4, j5⟩, z0, z1, z2, z3, z4, z5, z6⟩ := hcl.out _ hSw; clear hSw; (try simp only [List.getElem_toArray, List.getElem_cons_zero, List.getElem_cons_succ]); go_simp; try with_reducible rfl)
                    simp only [List.getElem_toArray, List.getElem_cons_zero, List.getElem_cons_succ, Act.put, List.setIfInBounds_toArray, List.set_cons_zero, List.set_cons_succ]
                    refine wpTree_pure (v := ?_) rfl (by rfl) ?_ (fun _ _ _ h => h) ?_
                    rotate_left
                    focus (intro w'; (try simp only [List.getElem_toArray, List.getElem_cons_zero, List.getElem_cons_succ]); go_simp; try with_reducible rfl)
                    simp only [List.getElem_toArray, List.getElem_cons_zero, List.getElem_cons_succ, Act.put, List.setIfInBounds_toArray, List.set_cons_zero, List.set_cons_succ]
                    refine wpTree_take (v := ?_) rfl (by rfl) ?_ (fun _ _ _ h => h) ?_
                    rotate_left
                    focus (intro w' hSw; obtain ⟨⟨k0, k1⟩, ⟨j0, j1, j2, j3, j4, j5⟩, z0, z1, z2, z3, z4, z5, z6⟩ := hcl.out _ hSw; clear hSw; (try simp only [List.getElem_toArray, List.getElem_cons_zero, List.getElem_cons_succ]); go_simp; try with_reducible rfl)
                    simp only [List.getElem_toArray, List.getElem_cons_zero, List.getElem_cons_succ, Act.put, List.setIfInBounds_toArray, List.set_cons_zero, List.set_cons_succ]
                    refine wpTree_pure (v := ?_) rfl (by rfl) ?_ (fun _ _ _ h => h) ?_
                    rotate_left
                    focus (intro w'; (try simp only [List.getElem_toArray, List.getElem_cons_zero, List.getElem_cons_succ]); go_simp; try with_reducible rfl)
                    simp only [List.getElem_toArray, List.getElem_cons_zero, List.getElem_cons_succ, Act.put, List.setIfInBounds_toArray, List.set_cons_zero, List.set_cons_succ]
                    refine wpTree_pure (v := ?_) rfl (by rfl) ?_ (fun _ _ _ h => h) ?_
                    rotate_left
                    focus (intro w'; (try simp only [List.getElem_toArray, List.getElem_cons_zero, List.getElem_cons_succ]); go_simp; try with_reducible rfl)
                    simp only [List.getElem_toArray, List.getElem_cons_zero, List.getElem_cons_succ, Act.put, List.setIfInBounds_toArray, List.set_cons_zero, List.set_cons_succ]
                    refine wpTree_take (v := ?_) rfl (by rfl) ?_ (fun _ _ _ h => h) ?_
                    rotate_left
                    focus (intro w' hSw; obtain ⟨⟨k0, k1⟩, ⟨j0, j1, j2, j3, j4, j5⟩, z0, z1, z2, z3, z4, z5, z6⟩ := hcl.out _ hSw; clear hSw; (try simp only [List.getElem_toArray, List.getElem_cons_zero, List.getElem_cons_succ]); go_simp; try with_reducible rfl)
                    simp only [List.getElem_toArray, List.getElem_cons_zero, List.getElem_cons_succ, Act.put, List.setIfInBounds_toArray, List.set_cons_zero, List.set_cons_succ]
                    refine wpTree_pure (v := ?_) rfl (by rfl) ?_ (fun _ _ _ h => h) ?_
                    rotate_left
                    focus (intro w'; (try simp only [List.getElem_toArray, List.getElem_cons_zero, List.getElem_cons_succ]); go_simp; try with_reducible rfl)
                    simp only [List.getElem_toArray, List.getElem_cons_zero, List.getElem_cons_succ, Act.put, List.setIfInBounds_toArray, List.set_cons_zero, List.set_cons_succ]
                    clear hcl
                    refine wpTree_do rfl (by rfl) ?_
                    (try simp only [List.getElem_toArray, List.getElem_cons_zero, List.getElem_cons_succ])
                    go_simp
                    go_at_call 32
                    (with_reducible refine Calls.mono (ce.out wq _ hSq.out.1 ?_) ?_)
                    focus (first | rfl | (exact IntWalk.i64_in _ (by omega)) | exact hwmb | exact hdt)
                    rintro e w6 ⟨A6, c6, rfl, _, hb6, _⟩
                    have hR6 := Lib.hid (hRq.out.later hb6)
                    have hx6 := (hb6.block bh (Array.getElem?_eq_some_iff.1 hSq.out.2).1).trans hSq.out.2
                    refine ⟨fun _ _ => ⟨hSq.out.1.later hb6, hx6⟩, ?_⟩
                    clear hb6
                    refine wpTree_pure (v := ?_) rfl (by rfl) ?_ (fun _ _ _ h => h) ?_
                    rotate_left
                    focus (intro w'; (try simp only [List.getElem_toArray, List.getElem_cons_zero, List.getElem_cons_succ]); go_simp; try with_reducible rfl)
                    simp only [List.getElem_toArray, List.getElem_cons_zero, List.getElem_cons_succ, Act.put, List.setIfInBounds_toArray, List.set_cons_zero, List.set_cons_succ]
                    refine wpTree_pure (v := ?_) rfl (by rfl) ?_ (fun _ _ _ h => h) ?_
                    rotate_left
                    focus (intro w'; (try simp only [List.getElem_toArray, List.getElem_cons_zero, List.getElem_cons_succ]); go_simp; try with_reducible rfl)
                    simp only [List.getElem_toArray, List.getElem_cons_zero, List.getElem_cons_succ, Act.put, List.setIfInBounds_toArray, List.set_cons_zero, List.set_cons_succ]
                    refine wpTree_pure (v := ?_) rfl (by rfl) ?_ (fun _ _ _ h => h) ?_
                    rotate_left
                    focus (intro w'; (try simp only [List.getElem_toArray, List.getElem_cons_zero, List.getElem_cons_succ]); go_simp; try with_reducible rfl)
                    simp only [List.getElem_toArray, List.getElem_cons_zero, List.getElem_cons_succ, Act.put, List.setIfInBounds_toArray, List.set_cons_zero, List.set_cons_succ]
                    refine wpTree_pure (v := ?_) rfl (by rfl) ?_ (fun _ _ _ h => h) ?_
                    rotate_left
                    focus (intro w'; (try simp only [List.getElem_toArray, List.getElem_cons_zero, List.getElem_cons_succ]); go_simp; try with_reducible rfl)
                    simp only [List.getElem_toArray, List.getElem_cons_zero, List.getElem_cons_succ, Act.put, List.setIfInBounds_toArray, List.set_cons_zero, List.set_cons_succ]
                    unfold wpTree
                    obtain ⟨y0, y1, y2, y3, y4, y5, y6⟩ := seven_cells hx6
                    replace hx6 := Lib.hid hx6
                    have hB6 := Lib.hid (hB5.out.trans (hR6.out.below.mono hB5.out.size))
                    have c34 := Lib.hid (fun (e : ga = H.parts) => sameParts_any A2 H.pa c2 H.pc ga H.parts w6 (hR6.out.row.rd (Nat.le_trans hglen (by decide))) (hR5.out.below hR6.out.below))
                    go_wp2_with (go_at_call 34; (with_reducible refine (c34.out (hall.out h300)).mono ?_); rintro e w7 ⟨rfl, hb7⟩; rw [decide_eq_true (hall.out h300)]; have hB7 := Lib.hid (hB6.out.trans (hb7.mono hB6.out.size)))
                    first
                      | exact ⟨⟨i' + 1, by go_num, by omega, hB7⟩, by simp only [intOf]; omega⟩
                      | exact ⟨⟨i' + 1, by go_num, by omega, hB6⟩, by simp only [intOf]; omega⟩
          · have h3b : (H.stage == 3) = false := by simpa using h3
            have h3c : (H.stage != 3) = true := by simpa using h3
            have hc1 := c0.out
            rw [if_pos h3] at hc1
            replace h3 := Lib.hid h3
            (with_reducible refine hc1.mono ?_)
            rintro e w5 ⟨A5, c5, rfl, _, hb5, _⟩
            have hx5 := (hb5.block bh (Array.getElem?_eq_some_iff.1 hxh.out).1).trans hxh.out
            have hB5 := Lib.hid (hBh.out.trans (hb5.mono hBh.out.size))
            clear m0 m1 m2 m3 m4 m5 y0 y1 y2 y3 y4 y5 y6 k0 k1 hc1 c0
            obtain ⟨y0, y1, y2, y3, y4, y5, y6⟩ := seven_cells hx5
            replace hx5 := Lib.hid hx5
            go_wp2_with fail
            exact ⟨⟨i' + 1, by go_num, by omega, hB5⟩, by simp only [intOf]; omega⟩
        · obtain ⟨m0, m1, m2, m3, m4, m5⟩ := six_cells (hPi.out.has (bs, s) (by simp)).cells
          go_wp2_with (go_at_call 17; refine (lives_any _).mono ?_; rintro e wL ⟨rfl, hbL⟩)
          go_ret
          exact ⟨rfl, (hPi.out.lf.later hbL).below⟩
end Go.Proofs.Ytpgkhlpepckfgaa
