/-
  The law StrawBalances, walked.
-/
import Derived.Test.YtpgkhlpepckfgaaXq03
set_option linter.all false
set_option linter.unusedVariables false
set_option linter.unusedSimpArgs false
namespace Go.Proofs.Ytpgkhlpepckfgaa
open Go.RowKit Go.Lib

/-- The farm, the store's variable, the ledger that was. -/
structure BX (w : World) (A : Option Addr) (c : Nat) (pl : List Plot) (dry : Int) (bs : Nat) (s : Store) (Aw : Option Addr) (L : List Cnt) (W : World) : Prop where
  px : PX w A c pl dry [(bs, s)] W
  was : RdCnts W Aw L
section
variable {w : World} {A : Option Addr} {c : Nat} {pl : List Plot} {dry : Int} {bs b : Nat} {s t x : Store} {Aw : Option Addr} {L : List Cnt} {W W' : World}
theorem BX.later (h : BX w A c pl dry bs s Aw L W) (hb : Below W.heap.size W W') : BX w A c pl dry bs s Aw L W' := ⟨h.px.later hb, FlatRow.below h.was hb⟩
theorem BX.hasS (h : BX w A c pl dry bs s Aw L W) : HasS W bs s := h.px.has (bs, s) (by simp)
/-- What is there behind a chore: its store in a variable of its own. -/
structure BY (w : World) (A : Option Addr) (c : Nat) (pl : List Plot) (dry : Int) (bs : Nat) (s : Store) (Aw : Option Addr) (L : List Cnt) (b : Nat) (t : Store) (W : World) : Prop where
  bx : BX w A c pl dry bs s Aw L W
  new : HasS W b t
  fresh : FreshS (bs + 1) t
  ge : bs < b
theorem BX.pushA (h : BX w A c pl dry bs s Aw L W) (hb : Below W.heap.size W W') (hx : W'.heap[b]? = some (.cells (storeCells x) 43 (0, 0))) (hz : W.heap.size ≤ b) (hr : RdStore W t) {B : Nat} (hf : FreshS B t) (hB : bs < B) : BY w A c pl dry bs s Aw L b t (putS W' b t) := by
  have hBl : Below W.heap.size W (putS W' b t) := set6_below _ _ _ _ _ _ hb hz
  have := h.hasS.lt
  exact ⟨h.later hBl, ⟨set6 _ _ _ _ _ _ hx, hr.below hBl⟩, fun k e => by have := hf k e; omega, by omega⟩
theorem BX.pushB (h : BX w A c pl dry bs s Aw L W) (hb : Below W.heap.size W W') (hx : W'.heap[b]? = some (.cells (storeCells x) 43 (0, 0))) (hz : W.heap.size ≤ b) (hr : RdStore W' t) {B : Nat} (hf : FreshS B t) (hbB : b < B) : BY w A c pl dry bs s Aw L b t (putS W' b t) := by
  have hBl : Below W.heap.size W (putS W' b t) := set6_below _ _ _ _ _ _ hb hz
  have := h.hasS.lt
  exact ⟨h.later hBl, ⟨set6 _ _ _ _ _ _ hx, hr.over hf hbB hx fun k hk => set6_other _ _ _ _ _ _ hk⟩, fun k e => by have := hf k e; omega, by omega⟩
/-- The store is the new one. -/
theorem BY.take (h : BY w A c pl dry bs s Aw L b t W) (hbs : w.heap.size < bs) : BX w A c pl dry bs t Aw L (putS W bs t) := by
  have hs := h.bx.hasS
  have hlf := h.bx.px.lf
  refine ⟨⟨⟨set6_below _ _ _ _ _ _ hlf.below (by omega), (set6_other _ _ _ _ _ _ (by omega)).trans hlf.farm, by rw [putS_size]; exact hlf.size⟩, fun p hp => ?_⟩, h.bx.was.over hs.cells fun k hk => set6_other _ _ _ _ _ _ hk⟩
  rw [List.mem_singleton] at hp
  subst hp
  exact ⟨set6 _ _ _ _ _ _ hs.cells, h.new.rd.over h.fresh (by omega) hs.cells fun k hk => set6_other _ _ _ _ _ _ hk⟩
end

set_option maxHeartbeats 4000000 in
set_option maxRecDepth 100000 in
theorem bal_any (A : Option Addr) (c : Nat) (pl : List Plot) (dry : Int) (B : Option Addr) (cb : Nat) (l : List Chore) (w : World) (h : RdPlots w A pl) (hl : RdChores w B l) :
    Calls Try.prog 10 #[.agg #[.slice A pl.length c, .int .i64 dry], .slice B l.length cb] w fun e w' => e = .returned (.bool true) ∧ Below w.heap.size w w' := by
  obtain ⟨W0, hW0⟩ : ∃ W0, W0 = (w.alloc (.cells #[.slice A pl.length c, .int .i64 dry] 24)) := ⟨_, rfl⟩
  have hX0 : Hid (LF w A c pl dry W0) := by rw [hW0]; exact LF.make
  obtain ⟨p0, p1⟩ := cells2 hX0.out.farm
  obtain ⟨ck, hck⟩ : ∃ ck, ck = checkI pl dry := ⟨_, rfl⟩
  have c23 : Hid (∀ W, LF w A c pl dry W → Calls Try.prog 23 #[.agg #[.slice A pl.length c, .int .i64 dry]] W fun e w' => ∃ t : Store, e = .returned (.tuple #[storeVal t, .int .i64 ck]) ∧ RdStore w' t ∧ SameS (newS pl dry) t ∧ Below W.heap.size W w') := fun W hW => hck ▸ new_any A c pl dry W (h.below hW.below)
  replace hck := Lib.hid hck
  go_enter Try.func10, Try.ntmps10
  go_upto_region 1 with fail
  rw [← hW0]
  replace hW0 := Lib.hid hW0
  by_cases h40 : 40 < l.length
  · go_wp2_with (first | (go_at_call 16; refine (great_any _ _ pl _ _ (h.below hX0.out.below)).mono ?_; rintro e w1 ⟨⟨b, rfl, hgr⟩, hb1⟩; have hX1 := Lib.hid (hX0.out.later hb1)) | (go_at_call 39; refine (long_any _ _ l _ (hl.below hX1.out.below)).mono ?_; rintro e w2 ⟨⟨b2, rfl, hlg⟩, hb2⟩; have hX2 := Lib.hid (hX1.out.later hb2)) | (go_at_call 17; refine (lives_any _).mono ?_; rintro e wL ⟨rfl, hbL⟩))
    all_goals go_ret
    all_goals first
      | exact ⟨rfl, (hX2.out.later hbL).below⟩
      | exact ⟨rfl, (hX1.out.later hbL).below⟩
  · go_wp2_with (first | (go_at_call 16; refine (great_any _ _ pl _ _ (h.below hX0.out.below)).mono ?_; rintro e w1 ⟨⟨b, rfl, hgr⟩, hb1⟩; have hX1 := Lib.hid (hX0.out.later hb1)) | (go_at_call 39; refine (long_any _ _ l _ (hl.below hX1.out.below)).mono ?_; rintro e w2 ⟨⟨b2, rfl, hlg⟩, hb2⟩; have hX2 := Lib.hid (hX1.out.later hb2); obtain ⟨k0, k1⟩ := cells2 hX2.out.farm) | (go_at_call 17; refine (lives_any _).mono ?_; rintro e wL ⟨rfl, hbL⟩))
    · go_ret
      exact ⟨rfl, (hX1.out.later hbL).below⟩
    · go_ret
      exact ⟨rfl, (hX2.out.later hbL).below⟩
    go_at_call 23
    (with_reducible refine (c23.out _ hX2.out).mono ?_)
    rintro e w3 ⟨s, rfl, hrs, hss, hb3⟩
    have hX3 := Lib.hid (hX2.out.later hb3)
    have hsc := Lib.hid (new_same hss)
    clear p0 p1 k0 k1 hb1 hb2 hb3 c23 hgr hlg hss
    go_upto_region 4 with fail
    obtain ⟨ws, hws⟩ : ∃ x, x = w3.alloc (.cells (storeCells s) 43) := ⟨_, rfl⟩
    obtain ⟨bs, hbs⟩ : ∃ x, x = w3.heap.size := ⟨_, rfl⟩
    rw [← hws, ← hbs]
    have hbw : Below w3.heap.size w3 ws := by rw [hws]; exact (Below.refl _ w3).alloc (Nat.le_refl _) _
    have hxs : ws.heap[bs]? = some (.cells (storeCells s) 43 (0, 0)) := by rw [hws, hbs]; exact heap_new _ _ _ rfl
    have hXs := Lib.hid (hX3.out.later hbw)
    have hS : Hid (HasS ws bs s) := ⟨hxs, hrs.below hbw⟩
    have hgs : Hid (w.heap.size < bs) := by unfold Hid; have := hX3.out.size; omega
    clear hrs hbw hxs
    replace hws := Lib.hid hws
    replace hbs := Lib.hid hbs
    by_cases h0 : ck = 0
    · have h0b : (ck != 0) = false := by simpa using h0
      have hci : checkI pl dry = 0 := hck.out.symm.trans h0
      have hct : checkS pl dry s = 0 := (hsc.out.checkS pl dry).trans (new_check hci)
      have hpl := (checkI_zero hci).1
      have hmk := make_cnts pl.length (by omega)
      obtain ⟨k0, k1⟩ := cells2 hXs.out.farm
      replace hct := Lib.hid hct
      replace h0 := Lib.hid h0
      go_upto_region 7 with fail
      obtain ⟨wm, hwm⟩ : ∃ x, x = ws.alloc (.cells (madeCells #[.int .i64 0, .int .i64 0, .int .i64 0, .int .i64 0] (pl.length * 4)) 55) := ⟨_, rfl⟩
      obtain ⟨bw, hbw⟩ : ∃ x, x = ws.heap.size := ⟨_, rfl⟩
      rw [← hwm, ← hbw]
      have hbm : Below ws.heap.size ws wm := by rw [hwm]; exact (Below.refl _ ws).alloc (Nat.le_refl _) _
      have hX : Hid (BX w A c pl dry bs s (some ⟨bw, 0, none⟩) (cntsL s pl.length) wm) := ⟨⟨hXs.out.later hbm, fun p hp => by
        rw [List.mem_singleton] at hp
        subst hp
        exact hS.out.later hbm⟩, zero_cnts (by rw [hwm, hbw]; exact heap_new _ _ _ rfl) (by omega) fun i hi => (cntAt_same hsc.out i).trans (new_cnt hci hi)⟩
      clear hmk hbm k0 k1 hS hXs hX3 hX2 hX1 hX0 hsc
      replace hwm := Lib.hid hwm
      replace hbw := Lib.hid hbw
      replace hci := Lib.hid hci
      go_wp2_with fail
      go_loopw [7, 8] (fun v i wr => ∃ (k : Nat) (t : Store) (Aw : Option Addr) (cw : Nat), v = .slice Aw pl.length cw ∧ i = .int .i64 k ∧ k ≤ l.length ∧ Hid (checkS pl dry t = 0) ∧ Hid (BX w A c pl dry bs t Aw (cntsL t pl.length) wr)) (fun _ i _ => l.length - (intOf i).toNat)
      case atStart => exact ⟨0, s, _, _, rfl, rfl, Nat.zero_le _, hct, hX⟩
      case round =>
        obtain ⟨k, s', Aw, cw, rfl, rfl, hk, hct', hX'⟩ := hrel
        clear hX hct
        by_cases hlt : k < l.length
        · obtain ⟨a, ha⟩ : ∃ a, a = l[k] := ⟨_, rfl⟩
          obtain ⟨wn, wo, wk⟩ := hl.2 _ (List.getElem_mem hlt)
          rw [← ha] at wn wo wk
          obtain ⟨ad, hA, _⟩ := (hl.1.below hX'.out.px.lf.below).at9 hlt rfl
          subst hA
          obtain ⟨e1, e2, e3⟩ := (check_ok hct'.out).lens
          obtain ⟨r, hrr⟩ : ∃ r, r = doP pl dry s' a := ⟨_, rfl⟩
          have c35 : Hid (∀ W, BX w A c pl dry bs s' Aw (cntsL s' pl.length) W → Calls Try.prog 35 #[.agg #[.slice A pl.length c, .int .i64 dry], storeVal s', choreVal a] W (DoOut r W)) := fun W hW => hrr ▸ do_any A c pl dry s' a W (h.below hW.px.lf.below) hW.hasS.rd (by omega) (by omega) (fun x hx => by have := e3 x hx; omega) wn wo wk
          clear e1 e2 e3
          replace ha := Lib.hid ha
          replace hrr := Lib.hid hrr
          go_upto_region 10 with fail
          go_cut [9, 10] (fun va vb wx => ∃ (b : Nat) (t : Store), va = ptr b ∧ vb = .int .i64 r.1 ∧ Hid (BY w A c pl dry bs s' Aw (cntsL s' pl.length) b t wx) ∧ Hid (SameC t r.2))
          case first =>
            as_aux_lemma =>
              obtain ⟨wq, hwq⟩ : ∃ x, x = wr.drew := ⟨_, rfl⟩
              have hPq : Hid (BX w A c pl dry bs s' Aw (cntsL s' pl.length) wq) := by rw [hwq]; exact hX'.out.later (below_drewN_ wr 1)
              have hcl := Lib.hid (fun W (hW : BX w A c pl dry bs s' Aw (cntsL s' pl.length) W) => And.intro (cells2 hW.px.lf.farm) (And.intro (six_cells hW.hasS.cells) ((hl.below hW.px.lf.below).cells9k hlt ha.out)))
              refine wp_region_tree (fun W => BX w A c pl dry bs s' Aw (cntsL s' pl.length) W) (.read 0 (.read 1 (.pure 2 (.pure 3 (.pure 4 (.read 5 (.two 6 (.pure 7 (.pure 8 (.pure 9 (.one 10 (.one 11 (.pure 12 .done)))))) 10 (.one 6 (.pure 7 (.pure 8 (.pure 9 (.one 11 (.pure 12 .done))))))))))))) [11] (by kernel_rfl) (by kernel_rfl) (by rw [← hwq]; exact hPq.out) ?_
              rw [← hwq]
              replace hwq := Lib.hid hwq
              refine wpTree_take (v := ?_) rfl (by rfl) ?_ (fun _ _ _ h => h) ?_
              rotate_left
              focus (intro w' hSw; obtain ⟨⟨k0, k1⟩, ⟨j0, j1, j2, j3, j4, j5⟩, x0, x1, x2, x3, x4, x5, x6, x7, x8⟩ := hcl.out _ hSw; clear hSw; (try simp only [List.getElem_toArray, List.getElem_cons_zero, List.getElem_cons_succ]); go_simp; try with_reducible rfl)
              simp only [List.getElem_toArray, List.getElem_cons_zero, List.getElem_cons_succ, Act.put, List.setIfInBounds_toArray, List.set_cons_zero, List.set_cons_succ]
              refine wpTree_take (v := ?_) rfl (by rfl) ?_ (fun _ _ _ h => h) ?_
              rotate_left
              focus (intro w' hSw; obtain ⟨⟨k0, k1⟩, ⟨j0, j1, j2, j3, j4, j5⟩, x0, x1, x2, x3, x4, x5, x6, x7, x8⟩ := hcl.out _ hSw; clear hSw; (try simp only [List.getElem_toArray, List.getElem_cons_zero, List.getElem_cons_succ]); go_simp; try with_reducible rfl)
              simp only [List.getElem_toArray, List.getElem_cons_zero, List.getElem_cons_succ, Act.put, List.setIfInBounds_toArray, List.set_cons_zero, List.set_cons_succ]
              refine wpTree_pure (v := ?_) rfl (by rfl) ?_ (fun _ _ _ h => h) ?_
              rotate_left
              focus (intro w'; (try simp only [List.getElem_toArray, List.getElem_cons_zero, List.getElem_cons_succ]); go_simp; try with_reducible rfl)
              simp only [List.getElem_toArray, List.getElem_cons_zero, List.getElem_cons_succ, Act.put, List.setIfInBounds_toArray, List.set_cons_zero, List.set_cons_succ]
              refine wpTree_pure (v := ?_) rfl (by rfl) ?_ (fun _ _ _ h => h) ?_
              rotate_left
              focus (intro w'; (try simp only [List.getElem_toArray, List.getElem_cons_zero, List.getElem_cons_succ]); go_simp; try with_reducible rfl)
              simp only [List.getElem_toArray, List.getElem_cons_zero, List.getElem_cons_succ, Act.put, List.setIfInBounds_toArray, List.set_cons_zero, List.set_cons_succ]
              refine wpTree_pure (v := ?_) rfl (by rfl) ?_ (fun _ _ _ h => h) ?_
              rotate_left
              focus (intro w'; (try simp only [List.getElem_toArray, List.getElem_cons_zero, List.getElem_cons_succ]); go_simp; try with_reducible rfl)
              simp only [List.getElem_toArray, List.getElem_cons_zero, List.getElem_cons_succ, Act.put, List.setIfInBounds_toArray, List.set_cons_zero, List.set_cons_succ]
              refine wpTree_take (v := ?_) rfl (by rfl) ?_ (fun _ _ _ h => h) ?_
              rotate_left
              focus (intro w' hSw; obtain ⟨⟨k0, k1⟩, ⟨j0, j1, j2, j3, j4, j5⟩, x0, x1, x2, x3, x4, x5, x6, x7, x8⟩ := hcl.out _ hSw; clear hSw; (try simp only [List.getElem_toArray, List.getElem_cons_zero, List.getElem_cons_succ]); go_simp; try with_reducible rfl)
              simp only [List.getElem_toArray, List.getElem_cons_zero, List.getElem_cons_succ, Act.put, List.setIfInBounds_toArray, List.set_cons_zero, List.set_cons_succ]
              clear hcl
              refine wpTree_two rfl (by rfl) rfl (by rfl) ?_ ?_
              (try simp only [List.getElem_toArray, List.getElem_cons_zero, List.getElem_cons_succ])
              go_simp
              go_at_call 35
              (with_reducible refine (c35.out _ hPq.out).mono ?_)
              rintro e w5 ⟨t, rfl, hst, hrt, hb5, hft⟩
              have hP5 := Lib.hid (hPq.out.later hb5)
              refine ⟨fun _ => hP5.out, ?_⟩
              clear hb5
              refine wpTree_pure (v := ?_) rfl (by rfl) ?_ (fun _ _ _ h => h) ?_
              rotate_left
              focus (intro w'; (try simp only [List.getElem_toArray, List.getElem_cons_zero, List.getElem_cons_succ]); go_simp; try with_reducible rfl)
              simp only [List.getElem_toArray, List.getElem_cons_zero, List.getElem_cons_succ, Act.put, List.setIfInBounds_toArray, List.set_cons_zero, List.set_cons_succ]
              refine wpTree_pure (v := ?_) rfl (by rfl) ?_ (fun _ _ _ h => h) ?_
              rotate_left
              focus (intro w'; (try simp only [List.getElem_toArray, List.getElem_cons_zero, List.getElem_cons_succ]); go_simp; try with_reducible rfl)
              simp only [List.getElem_toArray, List.getElem_cons_zero, List.getElem_cons_succ, Act.put, List.setIfInBounds_toArray, List.set_cons_zero, List.set_cons_succ]
              refine wpTree_pure (v := ?_) rfl (by rfl) ?_ (fun _ _ _ h => h) ?_
              rotate_left
              focus (intro w'; (try simp only [List.getElem_toArray, List.getElem_cons_zero, List.getElem_cons_succ]); go_simp; try with_reducible rfl)
              simp only [List.getElem_toArray, List.getElem_cons_zero, List.getElem_cons_succ, Act.put, List.setIfInBounds_toArray, List.set_cons_zero, List.set_cons_succ]
              refine wpTree_do rfl (by rfl) ?_
              (try simp only [List.getElem_toArray, List.getElem_cons_zero, List.getElem_cons_succ])
              go_simp
              obtain ⟨b6, hb6⟩ : ∃ b, b = w5.heap.size := ⟨_, rfl⟩
              rw [← hb6]
              obtain ⟨wz, hwz⟩ : ∃ x, x = w5.alloc (.cells (storeCells noStore) 43) := ⟨_, rfl⟩
              unfold storeCells noStore at hwz
              simp only [List.length_nil] at hwz
              rw [← hwz]
              have hba : Below w5.heap.size w5 wz := by rw [hwz]; exact (Below.refl _ w5).alloc (Nat.le_refl _) _
              have hxz : wz.heap[b6]? = some (.cells (storeCells noStore) 43 (0, 0)) := by rw [hwz, hb6]; exact heap_new _ _ _ rfl
              have hPz := Lib.hid (hP5.out.later hba)
              have hE : Hid (BY w A c pl dry bs s' Aw (cntsL s' pl.length) b6 t (putS wz b6 t)) := hP5.out.pushA hba hxz (by omega) hrt hft hPq.out.hasS.lt
              refine ⟨fun _ => hPz.out, ?_⟩
              clear hba hwz hb6 hrt hft hP5 hPz
              rotate_left 1
              (try simp only [List.getElem_toArray, List.getElem_cons_zero, List.getElem_cons_succ])
              go_simp
              obtain ⟨b6, hb6⟩ : ∃ b, b = wq.heap.size := ⟨_, rfl⟩
              rw [← hb6]
              obtain ⟨wz, hwz⟩ : ∃ x, x = wq.alloc (.cells (storeCells noStore) 43) := ⟨_, rfl⟩
              unfold storeCells noStore at hwz
              simp only [List.length_nil] at hwz
              rw [← hwz]
              have hba : Below wq.heap.size wq wz := by rw [hwz]; exact (Below.refl _ wq).alloc (Nat.le_refl _) _
              have hxa : wz.heap[b6]? = some (.cells (storeCells noStore) 43 (0, 0)) := by rw [hwz, hb6]; exact heap_new _ _ _ rfl
              have hPz := Lib.hid (hPq.out.later hba)
              have hbq : Hid (wq.heap.size ≤ b6) := by unfold Hid; omega
              replace hba := Lib.hid hba
              refine ⟨fun _ => hPz.out, ?_⟩
              clear hwz hb6
              refine wpTree_do rfl (by rfl) ?_
              (try simp only [List.getElem_toArray, List.getElem_cons_zero, List.getElem_cons_succ])
              go_simp
              go_at_call 35
              (with_reducible refine (c35.out _ hPz.out).mono ?_)
              rintro e w5 ⟨t, rfl, hst, hrt, hb5, hft⟩
              have hP5 := Lib.hid (hPz.out.later hb5)
              have hxz := (hb5.block b6 (Array.getElem?_eq_some_iff.1 hxa).1).trans hxa
              refine ⟨fun _ => hP5.out, ?_⟩
              have hE : Hid (BY w A c pl dry bs s' Aw (cntsL s' pl.length) b6 t (putS w5 b6 t)) := hPq.out.pushB (hba.out.trans (hb5.mono hba.out.size)) hxz hbq.out hrt hft (Array.getElem?_eq_some_iff.1 hxa).1
              clear hba hbq hxa hb5 hrt hft hPz hP5
              obtain ⟨wz, rfl⟩ : ∃ x, x = w5 := ⟨_, rfl⟩
              refine wpTree_pure (v := ?_) rfl (by rfl) ?_ (fun _ _ _ h => h) ?_
              rotate_left
              focus (intro w'; (try simp only [List.getElem_toArray, List.getElem_cons_zero, List.getElem_cons_succ]); go_simp; try with_reducible rfl)
              simp only [List.getElem_toArray, List.getElem_cons_zero, List.getElem_cons_succ, Act.put, List.setIfInBounds_toArray, List.set_cons_zero, List.set_cons_succ]
              refine wpTree_pure (v := ?_) rfl (by rfl) ?_ (fun _ _ _ h => h) ?_
              rotate_left
              focus (intro w'; (try simp only [List.getElem_toArray, List.getElem_cons_zero, List.getElem_cons_succ]); go_simp; try with_reducible rfl)
              simp only [List.getElem_toArray, List.getElem_cons_zero, List.getElem_cons_succ, Act.put, List.setIfInBounds_toArray, List.set_cons_zero, List.set_cons_succ]
              refine wpTree_pure (v := ?_) rfl (by rfl) ?_ (fun _ _ _ h => h) ?_
              rotate_left
              focus (intro w'; (try simp only [List.getElem_toArray, List.getElem_cons_zero, List.getElem_cons_succ]); go_simp; try with_reducible rfl)
              simp only [List.getElem_toArray, List.getElem_cons_zero, List.getElem_cons_succ, Act.put, List.setIfInBounds_toArray, List.set_cons_zero, List.set_cons_succ]
              all_goals
                have hfr : ∀ j, wz.frozen? ⟨b6, j, none⟩ = false := fun j => frozen_of_row wz _ j _ _ hxz
                have f0 := hfr 0
                have f1 := hfr 1
                have f2 := hfr 2
                have f3 := hfr 3
                have f4 := hfr 4
                have f5 := hfr 5
                obtain ⟨m0, m1, m2, m3, m4, m5⟩ := six_cells hxz
                clear hfr
                refine wpTree_do rfl (by rfl) ?_
                (try simp only [List.getElem_toArray, List.getElem_cons_zero, List.getElem_cons_succ])
                go_simp
                obtain ⟨w6, hw6⟩ : ∃ x, x = putS wz b6 t := ⟨_, rfl⟩
                rw [← hw6] at hE
                unfold putS at hw6
                rw [← hw6]
                clear f0 f1 f2 f3 f4 f5 m0 m1 m2 m3 m4 m5 hxz
                replace hw6 := Lib.hid hw6
                replace hst := Lib.hid hst
                refine wpTree_pure (v := ?_) rfl (by rfl) ?_ (fun _ _ _ h => h) ?_
                rotate_left
                focus (intro w'; (try simp only [List.getElem_toArray, List.getElem_cons_zero, List.getElem_cons_succ]); go_simp; try with_reducible rfl)
                simp only [List.getElem_toArray, List.getElem_cons_zero, List.getElem_cons_succ, Act.put, List.setIfInBounds_toArray, List.set_cons_zero, List.set_cons_succ]
                unfold wpTree
                go_wp2_with fail
                go_meet
                exact ⟨b6, t, rfl, rfl, hE, hst⟩
          obtain ⟨b6, t, rfl, rfl, hY, hst⟩ := hcut
          obtain ⟨w6, rfl⟩ : ∃ x, x = wc := ⟨_, rfl⟩
          obtain ⟨er, her⟩ : ∃ er, er = r.1 := ⟨_, rfl⟩
          rw [← her]
          replace her := Lib.hid her
          clear c35 hX'
          by_cases he : er = 0
          · have heb : (er != 0) = false := by simpa using he
            have hdo : (doP pl dry s' a).1 = 0 := by rw [← hrr.out, ← her.out, he]
            obtain ⟨_, hc2, _⟩ := do_ok hdo
            have hbal : Hid (∀ i, i < pl.length → BalF (cntAt t i) (cntAt s' i) (moreP a i)) := fun i hi => by
              have := bal_law hdo hi
              rw [← hrr.out] at this
              rw [cntAt_same hst.out]
              exact this
            rw [← hrr.out] at hc2
            have hct : Hid (checkS pl dry t = 0) := (hst.out.checkS pl dry).trans hc2
            obtain ⟨e1, e2, e3⟩ := (check_ok hct.out).lens
            have hX7 : Hid (BX w A c pl dry bs t Aw (cntsL s' pl.length) (putS w6 bs t)) := hY.out.take hgs.out
            obtain ⟨x0, x1, x2, x3, x4, x5⟩ := six_cells hY.out.new.cells
            have hsb := hY.out.bx.hasS.cells
            obtain ⟨m0, m1, m2, m3, m4, m5⟩ := six_cells hsb
            have hfr : ∀ j, w6.frozen? ⟨bs, j, none⟩ = false := fun j => frozen_of_row w6 _ j _ _ hsb
            have f0 := hfr 0
            have f1 := hfr 1
            have f2 := hfr 2
            have f3 := hfr 3
            have f4 := hfr 4
            have f5 := hfr 5
            obtain ⟨w7, hw7⟩ : ∃ x, x = putS w6 bs t := ⟨_, rfl⟩
            rw [← hw7] at hX7
            have c30 := ledger_any A c pl dry t w7 (h.below hX7.out.px.lf.below) hX7.out.hasS.rd (by omega) (by omega) (fun x hx => by have := e3 x hx; omega)
            rw [ledP_ok hct.out] at c30
            replace c30 := Lib.hid c30
            have c28 : Hid (∀ W, BX w A c pl dry bs t Aw (cntsL s' pl.length) W → Calls Try.prog 28 #[.agg #[.slice A pl.length c, .int .i64 dry], storeVal t] W fun e w' => e = .returned (.int .i64 0) ∧ Below W.heap.size W w') := fun W hW => by
              have := checkStore_any A c pl dry t W (h.below hW.px.lf.below) hW.hasS.rd (by omega) (by omega) (fun x hx => by have := e3 x hx; omega)
              rw [hct.out] at this
              exact this
            replace he := Lib.hid he
            replace hsb := Lib.hid hsb
            clear hfr hdo e1 e2 e3 hc2
            go_upto_region 13 with fail
            unfold putS at hw7
            rw [← hw7]
            clear f0 f1 f2 f3 f4 f5 m0 m1 m2 m3 m4 m5 x0 x1 x2 x3 x4 x5
            replace hw7 := Lib.hid hw7
            obtain ⟨m0, m1, m2, m3, m4, m5⟩ := six_cells hX7.out.hasS.cells
            obtain ⟨k0, k1⟩ := cells2 hX7.out.px.lf.farm
            go_wp2_with fail
            go_at_call 30
            (with_reducible refine c30.out.mono ?_)
            rintro e w8 ⟨An, cn, rfl, hAn, hb8⟩
            have hX8 := Lib.hid (hX7.out.later hb8)
            have hN8 : Hid (RdCnts w8 An (cntsL t pl.length)) := hAn
            clear m0 m1 m2 m3 m4 m5 k0 k1 hb8 hAn c30
            obtain ⟨m0, m1, m2, m3, m4, m5⟩ := six_cells hX8.out.hasS.cells
            obtain ⟨k0, k1⟩ := cells2 hX8.out.px.lf.farm
            have hcl : (cntsL t pl.length).length = pl.length := cntsL_len _ _
            rw [hcl]
            go_wp2_with (go_at_call 28; (with_reducible refine (c28.out _ hX8.out).mono ?_); rintro e w9 ⟨rfl, hb9⟩; have hX9 := Lib.hid (hX8.out.later hb9); have hN9 : Hid (RdCnts w9 An (cntsL t pl.length)) := FlatRow.below hN8.out hb9)
            have hG := Lib.hid (good_do hct.out (by have := (check_ok hct.out).lens.1; omega) (by have := (check_ok hct.out).lens.2.1; omega) (fun x hx => by have := (check_ok hct.out).lens.2.2 x hx; omega))
            clear m0 m1 m2 m3 m4 m5 k0 k1 c28 hcl hX7 hX8 hN8
            go_loopw [12] (fun v wx => ∃ j : Nat, v = .int .i64 j ∧ j ≤ pl.length ∧ Hid (Below w9.heap.size w9 wx)) (fun v _ => pl.length - (intOf v).toNat)
            case atStart => exact ⟨0, rfl, Nat.zero_le _, Below.refl _ w9⟩
            case round =>
              as_aux_lemma =>
                obtain ⟨j, rfl, hj, hbj⟩ := hrel
                have hXj := Lib.hid (hX9.out.later hbj.out)
                have hNj : Hid (RdCnts wr An (cntsL t pl.length)) := FlatRow.below hN9.out hbj.out
                by_cases hjl : j < pl.length
                · obtain ⟨an, hAn, y0, y1, y2, y3⟩ := RdCnts.at_ hNj.out hjl
                  obtain ⟨b1, b2, b3, b4, b5, b6'⟩ := hbal.out j hjl
                  obtain ⟨tg, htg⟩ : ∃ z, z = (cntAt t j).given := ⟨_, rfl⟩
                  obtain ⟨tu, htu⟩ : ∃ z, z = (cntAt t j).used := ⟨_, rfl⟩
                  obtain ⟨tl, htl⟩ : ∃ z, z = (cntAt t j).left := ⟨_, rfl⟩
                  obtain ⟨tw, htw⟩ : ∃ z, z = (cntAt t j).waste := ⟨_, rfl⟩
                  rw [← htg] at y0 b1 b2 b5
                  rw [← htu] at y1 b1 b3 b5
                  rw [← htl] at y2 b1 b5
                  rw [← htw] at y3 b1 b4 b5
                  subst hAn
                  replace htg := Lib.hid htg
                  replace htu := Lib.hid htu
                  replace htl := Lib.hid htl
                  replace htw := Lib.hid htw
                  replace b1 := Lib.hid b1
                  replace b2 := Lib.hid b2
                  go_upto_region 20 with fail
                  obtain ⟨wy, hwy⟩ : ∃ x, x = wr.alloc (.cells #[.int .i64 tg, .int .i64 tu, .int .i64 tl, .int .i64 tw] 55) := ⟨_, rfl⟩
                  obtain ⟨bx, hbx⟩ : ∃ x, x = wr.heap.size := ⟨_, rfl⟩
                  rw [← hwy, ← hbx]
                  have hby : Below wr.heap.size wr wy := by rw [hwy]; exact (Below.refl _ wr).alloc (Nat.le_refl _) _
                  have hxy : Hid (wy.heap[bx]? = some (.cells #[.int .i64 tg, .int .i64 tu, .int .i64 tl, .int .i64 tw] 55 (0, 0))) := by unfold Hid; rw [hwy, hbx]; exact heap_new _ _ _ rfl
                  have hXy := Lib.hid (hXj.out.later hby)
                  have hBy := Lib.hid (hbj.out.trans (hby.mono hbj.out.size))
                  replace hwy := Lib.hid hwy
                  replace hbx := Lib.hid hbx
                  clear y0 y1 y2 y3 hby hNj hXj
                  obtain ⟨x0, x1, x2, x3, x4, x5, x6, x7, x8⟩ := (hl.below hXy.out.px.lf.below).cells9k hlt ha.out
                  obtain ⟨mo, hmo⟩ : ∃ mo, mo = moreP a j := ⟨_, rfl⟩
                  replace hmo := Lib.hid hmo
                  obtain ⟨t1, ht1⟩ : ∃ t1 : Bool, (a.kind == 2) = t1 := ⟨_, rfl⟩
                  obtain ⟨t2, ht2⟩ : ∃ t2 : Bool, (a.plot == (j : Int)) = t2 := ⟨_, rfl⟩
                  have hmm : Hid (mo = if (t1 && t2) = true then a.loads else 0) := by
                    unfold Hid
                    rw [hmo.out, ← ht1, ← ht2]
                    unfold moreP
                    by_cases h1 : a.kind = 2 <;> by_cases h2 : a.plot = (j : Int) <;> simp [h1, h2]
                  cases t1
                  all_goals
                    go_upto_if 106 with fail
                    go_cut [14] (fun va wv => va = .int .i64 mo ∧ Hid (wv = wy))
                    case first =>
                      cases t2
                      all_goals
                        have hm := hmm.out
                        simp only [Bool.false_and, Bool.true_and, Bool.and_true, Bool.and_false, if_true, if_false, Bool.false_eq_true, reduceIte] at hm
                        clear ht1 ht2 hmm
                        replace hm := Lib.hid hm
                        go_wp2_with fail
                        go_meet
                        exact ⟨by rw [hm.out], rfl⟩
                    clear ht1 ht2
                    obtain ⟨rfl, hwv⟩ := hcut
                    obtain rfl : wc = wy := hwv.out
                    clear x0 x1 x2 x3 x4 x5 x6 x7 x8 hwv
                    go_wp2_with fail
                    have hhl := hG.out.hlen
                    go_loopw [15, 16] (fun v i wv => ∃ m : Nat, v = .int .i64 (leftL (t.heaps.take m) j) ∧ i = .int .i64 m ∧ m ≤ t.heaps.length ∧ Hid (Below wc.heap.size wc wv)) (fun _ i _ => t.heaps.length - (intOf i).toNat)
                    case atStart => exact ⟨0, by simp [leftL], rfl, Nat.zero_le _, Below.refl _ wc⟩
                    case round =>
                      as_aux_lemma =>
                        obtain ⟨m, rfl, rfl, hm, hbm⟩ := hrel
                        have hXm := Lib.hid (hXy.out.later hbm.out)
                        obtain ⟨m0, m1, m2, m3, m4, m5⟩ := six_cells hXm.out.hasS.cells
                        have hpos : ∀ x ∈ t.heaps, ∀ p ∈ x.parts, 0 ≤ p.loads := fun x hx p hp => (hG.out.heaps.2 x hx).2 p hp |>.1
                        obtain ⟨q1, q2⟩ := leftL_bound (l := t.heaps) m (j : Int) hpos
                        have q3 : leftL t.heaps (j : Int) ≤ 100000 := by have := htl.out; have hb1 := b1.out; unfold cntAt at this; dsimp only at this; omega
                        by_cases hml : m < t.heaps.length
                        · obtain ⟨ah, hAh, z0, z1, z2, z3, z4, z5, z6⟩ := hXm.out.hasS.rd.heaps.1.at7 hml rfl
                          rw [hAh] at m3
                          have hpr := (hXm.out.hasS.rd.heaps.2 _ (List.getElem_mem hml)).1
                          have hmi := hG.out.heaps.2 _ (List.getElem_mem hml)
                          have hs := leftL_take t.heaps (j : Int) m hml
                          obtain ⟨q4, q5⟩ := leftL_bound (l := t.heaps) (m + 1) (j : Int) hpos
                          have c41 := Lib.hid (lsum_of t.heaps[m].pa t.heaps[m].pc t.heaps[m].parts (j : Int) wr hpr hmi (by omega))
                          obtain ⟨lf, hlf⟩ : ∃ lf, lf = leftL (t.heaps.take m) (j : Int) := ⟨_, rfl⟩
                          obtain ⟨lo, hlo⟩ : ∃ lo, lo = ofL t.heaps[m].parts (j : Int) := ⟨_, rfl⟩
                          rw [← hlf, ← hlo] at hs
                          rw [hs] at q4 q5
                          rw [← hlf] at q1 q2 ⊢
                          rw [← hlo] at c41
                          replace hs := Lib.hid hs
                          replace hlf := Lib.hid hlf
                          replace hlo := Lib.hid hlo
                          replace hAh := Lib.hid hAh
                          clear hpr hmi z0 z1 z2 z4 z5 z6
                          go_wp2_with (go_at_call 41; (with_reducible refine c41.out.mono ?_); rintro e wk' ⟨rfl, rfl⟩)
                          exact ⟨⟨m + 1, by rw [hs.out], by go_num, by omega, hbm⟩, by simp only [intOf]; omega⟩
                        · have hle : leftL (t.heaps.take m) (j : Int) = tl := by
                            rw [List.take_of_length_le (by omega), htl.out]; rfl
                          rw [hle]
                          clear q1 q2 q3 hpos
                          replace hle := Lib.hid hle
                          have hxm : wr.heap[bx]? = some (.cells #[.int .i64 tg, .int .i64 tu, .int .i64 tl, .int .i64 tw] 55 (0, 0)) := (hbm.out.block bx (Array.getElem?_eq_some_iff.1 hxy.out).1).trans hxy.out
                          obtain ⟨y0, y1, y2, y3⟩ := four_cells hxm
                          obtain ⟨aw, hAw, z0, z1, z2, z3⟩ := RdCnts.at_ hXm.out.was hjl
                          obtain ⟨sg, hsg⟩ : ∃ z, z = (cntAt s' j).given := ⟨_, rfl⟩
                          obtain ⟨su, hsu⟩ : ∃ z, z = (cntAt s' j).used := ⟨_, rfl⟩
                          obtain ⟨sl, hsl⟩ : ∃ z, z = (cntAt s' j).left := ⟨_, rfl⟩
                          obtain ⟨sw, hsw⟩ : ∃ z, z = (cntAt s' j).waste := ⟨_, rfl⟩
                          have c1 := b1.out
                          have c2 := b2.out
                          rw [← hsg] at z0 c2
                          rw [← hsu] at z1 b3
                          rw [← hsl] at z2
                          rw [← hsw] at z3 b4
                          rw [← hmo.out] at c2
                          have hrd := hXm.out.hasS.rd
                          have hua : ∀ nn, Calls Try.prog 41 #[.slice t.ua t.used.length t.uc, .int .i64 (j : Int)] (wr.drewN nn) fun e w' => e = .returned (.int .i64 tu) ∧ w' = wr.drewN nn := fun nn => (lsum_of t.ua t.uc t.used (j : Int) _ (hrd.used.below (below_drewN_ _ _)) hG.out.used (by omega)).mono fun e w' q => ⟨by rw [q.1, htu.out]; rfl, q.2.symm⟩
                          have hwa : ∀ nn, Calls Try.prog 41 #[.slice t.wa t.waste.length t.wc, .int .i64 (j : Int)] (wr.drewN nn) fun e w' => e = .returned (.int .i64 tw) ∧ w' = wr.drewN nn := fun nn => (lsum_of t.wa t.wc t.waste (j : Int) _ (hrd.waste.below (below_drewN_ _ _)) hG.out.waste (by omega)).mono fun e w' q => ⟨by rw [q.1, htw.out]; rfl, q.2.symm⟩
                          have hk1 : IntKind.i64.wrap (tu + tl) = tu + tl := IntWalk.i64_in _ (by omega)
                          have hk2 : IntKind.i64.wrap (tu + tl + tw) = tg := (IntWalk.i64_in _ (by omega)).trans c1.symm
                          have hk3 : IntKind.i64.wrap (sg + mo) = tg := (IntWalk.i64_in _ (by omega)).trans c2.symm
                          have hn3 : ¬ tu < su := by omega
                          have hn4 : ¬ tw < sw := by omega
                          subst hAw
                          replace hua := Lib.hid hua
                          replace hwa := Lib.hid hwa
                          clear c1 c2 hrd hsg hsu hsl hsw b3 b4 b5 b6'
                          go_upto_region 27 with fail
                          dsimp only [List.append]
                          go_big_quiet (first | (go_at_call 41; with_reducible exact Calls.quiet_of_same (hua.out _)) | (go_at_call 41; with_reducible exact Calls.quiet_of_same (hwa.out _)))
                          have hfin : Hid (Below w9.heap.size w9 (wr.drewN nq)) := hBy.out.trans ((hbm.out.trans ((below_drewN_ wr nq).mono hbm.out.size)).mono hBy.out.size)
                          go_wp2_with fail
                          exact ⟨⟨j + 1, by go_num, by omega, hfin⟩, by simp only [intOf]; omega⟩
                · go_wp2_with fail
                  exact ⟨⟨k + 1, t, An, cn, rfl, by go_num, by omega, hct, ⟨hXj.out.px, hNj.out⟩⟩, by simp only [intOf]; omega⟩
          · have heb : (er != 0) = true := by simpa using he
            replace he := Lib.hid he
            go_wp2_with (go_at_call 17; refine (lives_any _).mono ?_; rintro e wL ⟨rfl, hbL⟩)
            go_ret
            exact ⟨rfl, (hY.out.bx.px.lf.later hbL).below⟩
        · go_wp2_with (go_at_call 17; refine (lives_any _).mono ?_; rintro e wL ⟨rfl, hbL⟩)
          go_ret
          exact ⟨rfl, (hX'.out.px.lf.later hbL).below⟩
    · have h0b : (ck != 0) = true := by simpa using h0
      replace h0 := Lib.hid h0
      go_wp2_with (go_at_call 17; refine (lives_any _).mono ?_; rintro e wL ⟨rfl, hbL⟩)
      go_ret
      exact ⟨rfl, (hXs.out.later hbL).below⟩
end Go.Proofs.Ytpgkhlpepckfgaa
