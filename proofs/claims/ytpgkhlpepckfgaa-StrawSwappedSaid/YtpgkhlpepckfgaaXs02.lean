/-
  The ledger, as the library has it: walked.
-/
import Derived.Test.YtpgkhlpepckfgaaXs00
import Derived.Test.YtpgkhlpepckfgaaXs01
import Derived.Deep.DeepCutAuto
set_option linter.all false
set_option linter.unusedVariables false
set_option linter.unusedSimpArgs false
namespace Go.Proofs.Ytpgkhlpepckfgaa
open Go.RowKit Go.Lib

theorem L3.make {w W : World} {A : Option Addr} {c : Nat} {pl : List Plot} {dry : Int} {s : Store} (h : FS w A c pl dry s W) (x y z : Nat) (hx : x < 3) (hy : y < 3) (hz : z < 3) (h1 : x ≠ y) (h2 : x ≠ z) (h3 : y ≠ z) :
    L3 w A c pl dry s (W.heap.size + x) (W.heap.size + y) (W.heap.size + z) (fun _ => 0) (fun _ => 0) (fun _ => 0) (((W.alloc (.cells (cntRow pl.length fun _ => 0) 3)).alloc (.cells (cntRow pl.length fun _ => 0) 3)).alloc (.cells (cntRow pl.length fun _ => 0) 3)).drew := by
  have z0 := h.size
  have b1 : Below W.heap.size W (((W.alloc (.cells (cntRow pl.length fun _ => 0) 3)).alloc (.cells (cntRow pl.length fun _ => 0) 3)).alloc (.cells (cntRow pl.length fun _ => 0) 3)).drew :=
    ((((Below.refl _ W).alloc (Nat.le_refl _) _).alloc (by simp) _).alloc (by simp; omega) _).drew
  have c0 : (((W.alloc (.cells (cntRow pl.length fun _ => 0) 3)).alloc (.cells (cntRow pl.length fun _ => 0) 3)).alloc (.cells (cntRow pl.length fun _ => 0) 3)).heap[W.heap.size]? = some (.cells (cntRow pl.length fun _ => 0) 3 (0, 0)) := heap_old _ _ _ _ (heap_old _ _ _ _ (heap_new _ _ _ rfl))
  have c1 : (((W.alloc (.cells (cntRow pl.length fun _ => 0) 3)).alloc (.cells (cntRow pl.length fun _ => 0) 3)).alloc (.cells (cntRow pl.length fun _ => 0) 3)).heap[W.heap.size + 1]? = some (.cells (cntRow pl.length fun _ => 0) 3 (0, 0)) := heap_old _ _ _ _ (heap_new _ _ _ (by simp))
  have c2 : (((W.alloc (.cells (cntRow pl.length fun _ => 0) 3)).alloc (.cells (cntRow pl.length fun _ => 0) 3)).alloc (.cells (cntRow pl.length fun _ => 0) 3)).heap[W.heap.size + 2]? = some (.cells (cntRow pl.length fun _ => 0) 3 (0, 0)) := heap_new _ _ _ (by simp)
  have hall : ∀ x, x < 3 → ((((W.alloc (.cells (cntRow pl.length fun _ => 0) 3)).alloc (.cells (cntRow pl.length fun _ => 0) 3)).alloc (.cells (cntRow pl.length fun _ => 0) 3)).drew).heap[W.heap.size + x]? = some (.cells (cntRow pl.length fun _ => 0) 3 (0, 0)) := fun x hx => by
    rcases (by omega : x = 0 ∨ x = 1 ∨ x = 2) with rfl | rfl | rfl
    · exact c0
    · exact c1
    · exact c2
  exact ⟨h.later b1, hall x hx, hall y hy, hall z hz, by omega, by omega, by omega, by omega, by omega, by omega⟩

section
variable {w W w1 : World} {A : Option Addr} {c : Nat} {pl : List Plot} {dry : Int} {s : Store} {gb gw gl b k : Nat} {fb fw fl : Nat → Int} {v v' : Value} {o : Obj}
theorem L4.arowD (h : L4 w A c pl dry s gb gw gl fb fw fl b k v W) : ((W.alloc o).drew).ownsRow b 55 4 v (cntsL s k).length ((cntsL s k).flatMap encCnt) := (h.later (((Below.refl _ _).alloc (Nat.le_refl _) _).drew)).row
theorem L4.baseD (h : L4 w A c pl dry s gb gw gl fb fw fl b k v W) : b ≤ ((W.alloc o).drew).heap.size := h.base
end
theorem new_fourD (W : World) (p : Cnt) : ∀ j u, (encCnt p)[j]? = some u → ((W.alloc (.cells #[.int .i64 p.given, .int .i64 p.used, .int .i64 p.left, .int .i64 p.waste] 55)).drew).cell? ((⟨W.heap.size, 0, none⟩ : Addr).add j) = some u := new_four W p
theorem leftL_bounds_take {l : List Heap} (h : MildH l) (k : Nat) (i : Int) : 0 ≤ leftL (l.take k) i ∧ leftL (l.take k) i ≤ 1000000000000000 := by
  obtain ⟨a, b⟩ := leftL_bounds (l := l.take k) i (fun x hx => h.2 x (List.mem_of_mem_take hx))
  have := h.1
  have h3 : (l.take k).length ≤ l.length := by rw [List.length_take]; omega
  exact ⟨a, by omega⟩

set_option maxHeartbeats 2000000 in
set_option maxRecDepth 100000 in
theorem ledger_any (A : Option Addr) (c : Nat) (pl : List Plot) (dry : Int) (s : Store) (w : World) (h : RdPlots w A pl) (hs : RdStore w s) (hu : s.used.length ≤ 1000000) (hw : s.waste.length ≤ 1000000) (hh : ∀ x ∈ s.heaps, x.parts.length ≤ 1000000) :
    Calls Try.prog 30 #[.agg #[.slice A pl.length c, .int .i64 dry], storeVal s] w (LedOut (ledP pl dry s) w) := by
  obtain ⟨W0, hW0⟩ : ∃ W0, W0 = (w.alloc (.cells #[.slice A pl.length c, .int .i64 dry] 24)).alloc (.cells (storeCells s) 43) := ⟨_, rfl⟩
  have hF0 : FS w A c pl dry s W0 := by rw [hW0]; exact FS.start
  obtain ⟨d1, d2⟩ := hF0.cells
  obtain ⟨k0, k1, k2, k3, k4, k5⟩ := six_cells hF0.store
  have hz1 : w.heap.size + 1 < W0.heap.size := hF0.size
  have hz0 : w.heap.size < W0.heap.size := by omega
  replace hF0 := Lib.hid hF0
  obtain ⟨ck, hck⟩ : ∃ ck, ck = checkS pl dry s := ⟨_, rfl⟩
  have hca := checkStore_any A c pl dry s W0 (h.below hF0.out.below) (hs.below hF0.out.below) hu hw hh
  rw [← hck] at hca
  replace hca := Lib.hid hca
  by_cases hc0 : ck = 0
  · subst hc0
    have hG := good_store hck.symm hu hw hh
    have hres := Lib.hid (ledP_ok hck.symm)
    have hp12 := hG.plots
    replace hG := Lib.hid hG
    replace hck := Lib.hid hck.symm
    have hmk : ∀ W, (Instr.makeSlice 29 (.int .i64 (pl.length : Int)) (.int .i64 (pl.length : Int))).run Try.prog W = .ok (.slice (some ⟨W.heap.size, 0, none⟩) pl.length pl.length) (W.alloc (.cells (cntRow pl.length fun _ => 0) 3)) := fun W => make_cnt pl.length (by omega) W
    go_enter Try.func30, Try.ntmps30
    go_wp2_with fail
    rw [← hW0]
    replace hW0 := Lib.hid hW0
    go_upto_region 5 with (go_at_call 28; refine hca.out.mono ?_; rintro e w1 ⟨rfl, hb1⟩; have hF1 := Lib.hid (hF0.out.later hb1); obtain ⟨e1, e2⟩ := hF1.out.cells)
    clear d1 d2 k0 k1 k2 k3 k4 k5
    go_cut [8, 9, 10] (fun vb vw vl wx => ∃ gb gw gl : Nat, vb = .slice (some ⟨gb, 0, none⟩) pl.length pl.length ∧ vw = .slice (some ⟨gw, 0, none⟩) pl.length pl.length ∧ vl = .slice (some ⟨gl, 0, none⟩) pl.length pl.length ∧ Hid (L3 w A c pl dry s gb gw gl (fun _ => 0) (fun _ => 0) (fun _ => 0) wx))
    case first =>
      go_region
      all_goals
        go_wp2_with fail
        go_meet
        first
          | exact ⟨_, _, _, rfl, rfl, rfl, L3.make hF1.out 0 1 2 (by decide) (by decide) (by decide) (by decide) (by decide) (by decide)⟩
          | exact ⟨_, _, _, rfl, rfl, rfl, L3.make hF1.out 0 2 1 (by decide) (by decide) (by decide) (by decide) (by decide) (by decide)⟩
          | exact ⟨_, _, _, rfl, rfl, rfl, L3.make hF1.out 1 0 2 (by decide) (by decide) (by decide) (by decide) (by decide) (by decide)⟩
          | exact ⟨_, _, _, rfl, rfl, rfl, L3.make hF1.out 1 2 0 (by decide) (by decide) (by decide) (by decide) (by decide) (by decide)⟩
          | exact ⟨_, _, _, rfl, rfl, rfl, L3.make hF1.out 2 0 1 (by decide) (by decide) (by decide) (by decide) (by decide) (by decide)⟩
          | exact ⟨_, _, _, rfl, rfl, rfl, L3.make hF1.out 2 1 0 (by decide) (by decide) (by decide) (by decide) (by decide) (by decide)⟩
    case rest =>
      obtain ⟨gb, gw, gl, rfl, rfl, rfl, hL⟩ := hcut
      obtain ⟨x0, x1, x2, x3, x4, x5⟩ := six_cells hL.out.store
      obtain ⟨ha, hha⟩ : ∃ x, x = s.ha := ⟨_, rfl⟩
      replace hha := Lib.hid hha
      have hll := hs.heaps.1.1
      have hlg := hG.out.given
      go_wp2_with (first | (go_at_call 61; refine (hLb.out.countW s.wa s.wc s.waste hs.waste hG.out.waste hG.out.win (fun _ => ⟨by simp, by simp⟩) (by omega)).mono ?_; rintro e w3 ⟨rfl, hLw⟩; replace hLw := Lib.hid hLw; obtain ⟨z0, z1, z2, z3, z4, z5⟩ := six_cells hLw.out.store; rw [← hha.out] at z3) | (go_at_call 61; refine (hL.out.countB s.ua s.uc s.used hs.used hG.out.used hG.out.uin (fun _ => ⟨by simp, by simp⟩) (by omega)).mono ?_; rintro e w2 ⟨rfl, hLb⟩; replace hLb := Lib.hid hLb; obtain ⟨y0, y1, y2, y3, y4, y5⟩ := six_cells hLb.out.store))
      clear x0 x1 x2 x3 x4 x5 y0 y1 y2 y3 y4 y5 z0 z1 z2 z3 z4 z5
      go_loopw [42] (fun i wr => ∃ k : Nat, i = .int .i64 k ∧ k ≤ s.heaps.length ∧ Hid (L3 w A c pl dry s gb gw gl (fun i => 0 + ofL s.used i) (fun i => 0 + ofL s.waste i) (fun i => leftL (s.heaps.take k) i) wr)) (fun i _ => s.heaps.length - (intOf i).toNat)
      case atStart => exact ⟨0, rfl, Nat.zero_le _, L3.extL hLw.out (fun i => by simp [leftL])⟩
      case round =>
        obtain ⟨k, rfl, hk, hR⟩ := hrel
        by_cases hlt : k < s.heaps.length
        · obtain ⟨ad, hA, p0, p1, p2, p3, p4, p5, p6⟩ := (FlatRow.below hs.heaps.1 hR.out.below).at7 hlt rfl
          have hA' : ha = some ad := hha.out.trans hA
          subst hA'
          obtain ⟨hpr, _⟩ := hs.heaps.2 _ (List.getElem_mem hlt)
          have hMd := hG.out.heaps.2 _ (List.getElem_mem hlt)
          have hIn := hG.out.hin _ (List.getElem_mem hlt)
          have hbd : ∀ i : Nat, 0 ≤ leftL (s.heaps.take k) i ∧ leftL (s.heaps.take k) i ≤ 1000000000000000 := fun i => leftL_bounds_take hG.out.heaps k i
          have hle : ∀ i : Nat, leftL (s.heaps.take k) i + ofL s.heaps[k].parts i = leftL (s.heaps.take (k + 1)) i := fun i => (leftL_take s.heaps i k hlt).symm
          obtain ⟨H, hH⟩ : ∃ H, H = s.heaps[k] := ⟨_, rfl⟩
          rw [← hH] at p0 p1 p2 p3 p4 p5 p6 hpr hMd hIn
          simp only [← hH] at hle
          replace hH := Lib.hid hH
          have hR2 : Hid (∀ o, L3 w A c pl dry s gb gw gl (fun i => 0 + ofL s.used i) (fun i => 0 + ofL s.waste i) (fun i => leftL (s.heaps.take k) i) (wr.alloc o)) := fun o => hR.out.later ((Below.refl _ wr).alloc (Nat.le_refl _) _)
          replace hMd := Lib.hid hMd
          replace hbd := Lib.hid hbd
          replace hle := Lib.hid hle
          replace hIn := Lib.hid hIn
          go_wp2_with (go_at_call 61; refine ((hR2.out _).countL H.pa H.pc H.parts hpr hMd.out hIn.out hbd.out (by omega)).mono ?_; rintro e w5 ⟨rfl, hR5⟩; replace hR5 := Lib.hid (hR5.extL hle.out))
          exact ⟨⟨k + 1, by go_num, by omega, hR5⟩, by simp only [intOf]; omega⟩
        · have hke : k = s.heaps.length := by omega
          subst hke
          have hM : Hid (L3 w A c pl dry s gb gw gl (fun i => 0 + ofL s.used i) (fun i => 0 + ofL s.waste i) (fun i => leftL s.heaps i) wr) := by
            have := hR.out
            rw [List.take_length] at this
            exact this
          obtain ⟨x0, x1, x2, x3, x4, x5⟩ := six_cells hM.out.store
          obtain ⟨gaa, hga⟩ : ∃ x, x = s.ga := ⟨_, rfl⟩
          replace hga := Lib.hid hga
          rw [← hga.out] at x2
          go_wp2
          clear x0 x1 x2 x3 x4 x5
          obtain ⟨wo, rfl⟩ : ∃ x, x = wr := ⟨wr, rfl⟩
          clear hk hlt
          go_loopw [13, 54] (fun v i wr => ∃ (k : Nat) (v' : Value), v = v' ∧ i = .int .i64 k ∧ k ≤ s.given.length ∧ Hid (L4 w A c pl dry s gb gw gl (fun i => 0 + ofL s.used i) (fun i => 0 + ofL s.waste i) (fun i => leftL s.heaps i) wo.heap.size k v' wr)) (fun _ i _ => s.given.length - (intOf i).toNat)
          case atStart => exact ⟨0, _, rfl, rfl, Nat.zero_le _, L4.start hM.out⟩
          case round =>
            obtain ⟨k, v, rfl, rfl, hk, hL⟩ := hrel
            by_cases hlt : k < s.given.length
            · have hkp : k < pl.length := by omega
              obtain ⟨ag, hag, gg⟩ := FlatRow.at1 (FlatRow.below hs.given hL.out.below) hlt rfl
              have hag' : gaa = some ag := hga.out.trans hag
              subst hag'
              have hcl0 := cntsL_len s k
              have hcA : cntAt s k = ⟨s.given[k], ofL s.used k, leftL s.heaps k, ofL s.waste k⟩ := by unfold cntAt; rw [getD_lt _ hlt]
              have c1 := cell_cnt hL.out.cb hkp
              have c2 := cell_cnt hL.out.cl hkp
              have c3 := cell_cnt hL.out.cw hkp
              simp only [Int.zero_add] at c1 c3
              obtain ⟨gj, hgj⟩ : ∃ gj, gj = s.given[k] := ⟨_, rfl⟩
              obtain ⟨lf, hlf⟩ : ∃ lf, lf = leftL s.heaps k := ⟨_, rfl⟩
              obtain ⟨of1, hof1⟩ : ∃ x, x = ofL s.used k := ⟨_, rfl⟩
              obtain ⟨of2, hof2⟩ : ∃ x, x = ofL s.waste k := ⟨_, rfl⟩
              rw [← hgj] at gg hcA
              rw [← hlf] at c2
              rw [← hof1] at c1
              rw [← hof2] at c3
              rw [← hlf, ← hof1, ← hof2] at hcA
              have hq1 := Lib.hid hof1
              have hq2 := Lib.hid hlf
              have hq3 := Lib.hid hof2
              clear hgj hlf hof1 hof2 hag
              replace hcA := Lib.hid hcA
              have hm1 : Hid ((cntsL s k).length + 1 ≤ maxLen) := by unfold Hid maxLen; omega
              have hm2 : Hid (((cntsL s k).length + 1) * 32 ≤ 140737488355328) := by unfold Hid; omega
              obtain ⟨i0, hi0, hz0', hs0, hb0⟩ := info_parts info55
              go_wp2
              have hd : L4 w A c pl dry s gb gw gl (fun i => 0 + ofL s.used i) (fun i => 0 + ofL s.waste i) (fun i => leftL s.heaps i) wo.heap.size k u13 wr.drew := hL.out.later ((Below.refl _ wr).drew)
              have hcl : ∀ W v n, L4 w A c pl dry s gb gw gl (fun i => 0 + ofL s.used i) (fun i => 0 + ofL s.waste i) (fun i => leftL s.heaps i) wo.heap.size n v W → W.cell? ⟨gb, k, none⟩ = some (.int .i64 of1) ∧ W.cell? ⟨gl, k, none⟩ = some (.int .i64 lf) ∧ W.cell? ⟨gw, k, none⟩ = some (.int .i64 of2) ∧ FS w A c pl dry s W := fun W v n hW => ⟨by rw [cell_cnt hW.cb hkp, ← hq1.out]; simp, by rw [cell_cnt hW.cl hkp, ← hq2.out], by rw [cell_cnt hW.cw hkp, ← hq3.out]; simp, hW.toFS⟩
              replace hcl := Lib.hid hcl
              have S0 := Lib.hid (hcl.out _ _ _ hd)
              go_region_held3 (fun W => W.cell? ⟨gb, k, none⟩ = some (.int .i64 of1) ∧ W.cell? ⟨gl, k, none⟩ = some (.int .i64 lf) ∧ W.cell? ⟨gw, k, none⟩ = some (.int .i64 of2) ∧ FS w A c pl dry s W) (first | (with_reducible exact S0.out) | (with_reducible assumption) | (with_reducible exact hcl.out _ _ _ (by assumption : L4 w A c pl dry s gb gw gl (fun i => 0 + ofL s.used i) (fun i => 0 + ofL s.waste i) (fun i => leftL s.heaps i) wo.heap.size (k + 1) _ _)) | (with_reducible exact hcl.out _ _ _ (by assumption : L4 w A c pl dry s gb gw gl (fun i => 0 + ofL s.used i) (fun i => 0 + ofL s.waste i) (fun i => leftL s.heaps i) wo.heap.size k u13 _)) | exact hcl.out _ _ _ (L4.later (by assumption : L4 w A c pl dry s gb gw gl (fun i => 0 + ofL s.used i) (fun i => 0 + ofL s.waste i) (fun i => leftL s.heaps i) wo.heap.size k u13 _) ((Below.refl _ _).alloc (Nat.le_refl _) _))) ((refine step_append_lies _ rfl (.tmp 59) (.tmp 74) 51 rfl wo.heap.size 55 i0 (.agg #[.int .i64 0, .int .i64 0, .int .i64 0, .int .i64 0]) 4 32 Try.underlying51 hi0 hz0' hs0 hb0 rfl (by decide) u13 (cntsL s k).length ((cntsL s k).flatMap encCnt) (by simp [Act.eval]) (L4.arowD hL.out) _ 1 1 (encCnt ⟨gj, of1, lf, of2⟩) (by simp [Act.eval]) rfl (new_fourD _ _) (by simp [encCnt, Value.oneCell']) (by decide) hm1.out hm2.out (L4.baseD hL.out) _ rfl ?_; intro g cap w1 hown hgrow hnear hlt1; have hP : L4 w A c pl dry s gb gw gl (fun i => 0 + ofL s.used i) (fun i => 0 + ofL s.waste i) (fun i => leftL s.heaps i) wo.heap.size (k + 1) (.slice (some ⟨g, 0, none⟩) ((cntsL s k).length + 1) cap) w1 := L4.push hL.out hcA.out hown (grown_undrew hgrow); clear hown hgrow hnear hlt1))
              all_goals
                have hP := Lib.hid (by assumption : L4 w A c pl dry s gb gw gl (fun i => 0 + ofL s.used i) (fun i => 0 + ofL s.waste i) (fun i => leftL s.heaps i) wo.heap.size (k + 1) _ _)
                rw [hcl0] at hP ⊢
                go_wp2
                exact ⟨⟨k + 1, _, rfl, by go_num, by omega, hP⟩, by simp only [intOf]; omega⟩
            · have hke : k = s.given.length := by omega
              subst hke
              obtain ⟨A1, c1, hv, H1⟩ := hL.out.row.reads (by rw [cntsL_len]; omega)
              subst hv
              go_wp2
              go_ret2
              rw [cntsL_len]
              exact ⟨A1, c1, by rw [hres.out, hlg]; simp [cntsL_len], by rw [hres.out, ← hlg]; exact H1, hL.out.below⟩
  · have hcb : (ck != 0) = true := bne_iff_ne.2 hc0
    have hres : Hid (ledP pl dry s = ([], ck)) := by unfold Hid; rw [hck]; exact ledP_bad (hck ▸ hc0)
    replace hck := Lib.hid hck
    clear hc0
    go_enter Try.func30, Try.ntmps30
    go_wp2_with fail
    rw [← hW0]
    replace hW0 := Lib.hid hW0
    go_wp2_with (go_at_call 28; refine hca.out.mono ?_; rintro e w1 ⟨rfl, hb1⟩)
    go_ret2
    exact ⟨none, 0, by rw [hres.out]; rfl, by rw [hres.out]; exact cnts_nil _, (hF0.out.later hb1).below⟩
end Go.Proofs.Ytpgkhlpepckfgaa
