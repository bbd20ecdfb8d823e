/-
  The law StrawParts, walked.
-/
import Derived.Test.YtpgkhlpepckfgaaXa22
import Derived.Test.YtpgkhlpepckfgaaXi00
set_option linter.all false
set_option linter.unusedVariables false
set_option linter.unusedSimpArgs false
namespace Go.Proofs.Ytpgkhlpepckfgaa
open Go.RowKit Go.Lib

/-- A store's variable, and the store. -/
structure HasS (W : World) (b : Nat) (s : Store) : Prop where
  cells : W.heap[b]? = some (.cells (storeCells s) 43 (0, 0))
  rd : RdStore W s
theorem HasS.later {W W' : World} {b : Nat} {s : Store} (h : HasS W b s) (hb : Below W.heap.size W W') : HasS W' b s := ⟨(hb.block b (Array.getElem?_eq_some_iff.1 h.cells).1).trans h.cells, h.rd.below hb⟩
theorem HasS.lt {W : World} {b : Nat} {s : Store} (h : HasS W b s) : b < W.heap.size := (Array.getElem?_eq_some_iff.1 h.cells).1
theorem RdChores.take {W : World} {B : Option Addr} {l : List Chore} (h : RdChores W B l) (n : Nat) : RdChores W B (l.take n) := by
  refine ⟨⟨Nat.le_trans (by simp; omega) h.1.1, fun i x hx => ?_⟩, fun a ha => h.2 a (List.mem_of_mem_take ha)⟩
  rw [List.getElem?_take] at hx
  split at hx
  · exact h.1.2 i x hx
  · cases hx
theorem RdChores.drop {W : World} {ad : Addr} {l : List Chore} (h : RdChores W (some ad) l) (n : Nat) : RdChores W (some (ad.add (n * 9))) (l.drop n) := by
  refine ⟨⟨Nat.le_trans (by simp) h.1.1, fun i x hx => ⟨_, rfl, fun j u hu => ?_⟩⟩, fun a ha => h.2 a (List.mem_of_mem_drop ha)⟩
  rw [List.getElem?_drop] at hx
  obtain ⟨ad', e, hc⟩ := h.1.2 (n + i) x hx
  cases e
  rw [Deep.add_add]
  have := hc j u hu
  rw [show n * 9 + (i * 9 + j) = (n + i) * 9 + j by omega]
  exact this

/-- The farm, and stores' variables. -/
structure PX (w : World) (A : Option Addr) (c : Nat) (pl : List Plot) (dry : Int) (L : List (Nat × Store)) (W : World) : Prop where
  lf : LF w A c pl dry W
  has : ∀ p ∈ L, HasS W p.1 p.2
section
variable {w : World} {A : Option Addr} {c : Nat} {pl : List Plot} {dry : Int} {L : List (Nat × Store)} {t x : Store} {b : Nat} {W W' W2 : World}
theorem PX.later (h : PX w A c pl dry L W) (hb : Below W.heap.size W W') : PX w A c pl dry L W' := ⟨h.lf.later hb, fun p hp => (h.has p hp).later hb⟩
theorem PX.push (h : PX w A c pl dry L W) (hs : HasS W b t) : PX w A c pl dry ((b, t) :: L) W := ⟨h.lf, fun p hp => by
  rcases List.mem_cons.1 hp with rfl | h1
  · exact hs
  · exact h.has p h1⟩
/-- A variable that is new is written. -/
theorem PX.pushA (h : PX w A c pl dry L W) (hb : Below W.heap.size W W') (hx : W'.heap[b]? = some (.cells (storeCells x) 43 (0, 0))) (hz : W.heap.size ≤ b) (hr : RdStore W t) : PX w A c pl dry ((b, t) :: L) (putS W' b t) := by
  have hB : Below W.heap.size W (putS W' b t) := set6_below _ _ _ _ _ _ hb hz
  exact (h.later hB).push ⟨set6 _ _ _ _ _ _ hx, hr.below hB⟩
theorem PX.pushB (h : PX w A c pl dry L W) (hb : Below W.heap.size W W') (hx : W'.heap[b]? = some (.cells (storeCells x) 43 (0, 0))) (hz : W.heap.size ≤ b) (hr : RdStore W' t) {B : Nat} (hf : FreshS B t) (hbB : b < B) : PX w A c pl dry ((b, t) :: L) (putS W' b t) := by
  have hB : Below W.heap.size W (putS W' b t) := set6_below _ _ _ _ _ _ hb hz
  exact (h.later hB).push ⟨set6 _ _ _ _ _ _ hx, hr.over hf hbB hx fun k hk => set6_other _ _ _ _ _ _ hk⟩
end
theorem RdChores.dropB {W : World} {B : Option Addr} {l : List Chore} (h : RdChores W B l) {k cb : Nat} (hcap : l.length ≤ cb) : RdChores W (if cb = k then B else Option.map (fun x => x.add (k * 9)) B) (l.drop k) := by
  have nil : ∀ C : Option Addr, l.drop k = [] → RdChores W C (l.drop k) := fun C e => by rw [e]; exact ⟨⟨by simp, by simp⟩, by simp⟩
  by_cases hk : cb = k
  · exact nil _ (List.drop_eq_nil_of_le (by omega))
  · rw [if_neg hk]
    cases B with
    | none =>
      have e : l = [] := by
        cases l with
        | nil => rfl
        | cons a l => obtain ⟨ad, e, _⟩ := h.1.2 0 a rfl; cases e
      subst e
      exact nil _ (by simp)
    | some ad => exact h.drop k
set_option maxHeartbeats 4000000 in
set_option maxRecDepth 100000 in
theorem parts_any (A : Option Addr) (c : Nat) (pl : List Plot) (dry : Int) (B : Option Addr) (cb : Nat) (l : List Chore) (x : Int) (w : World) (h : RdPlots w A pl) (hl : RdChores w B l) (hcap : l.length ≤ cb) (hx : 0 ≤ x ∧ x ≤ 255) :
    Calls Try.prog 12 #[.agg #[.slice A pl.length c, .int .i64 dry], .slice B l.length cb, .int .u8 x] w fun e w' => e = .returned (.bool true) ∧ Below w.heap.size w w' := by
  obtain ⟨W0, hW0⟩ : ∃ W0, W0 = (w.alloc (.cells #[.slice A pl.length c, .int .i64 dry] 24)) := ⟨_, rfl⟩
  have hX0 : Hid (LF w A c pl dry W0) := by rw [hW0]; exact LF.make
  obtain ⟨p0, p1⟩ := cells2 hX0.out.farm
  obtain ⟨ck, hck⟩ : ∃ ck, ck = checkI pl dry := ⟨_, rfl⟩
  have c23 : Hid (∀ W, LF w A c pl dry W → Calls Try.prog 23 #[.agg #[.slice A pl.length c, .int .i64 dry]] W fun e w' => ∃ t : Store, e = .returned (.tuple #[storeVal t, .int .i64 ck]) ∧ RdStore w' t ∧ SameS (newS pl dry) t ∧ Below W.heap.size W w') := fun W hW => hck ▸ new_any A c pl dry W (h.below hW.below)
  replace hck := Lib.hid hck
  go_enter Try.func12, Try.ntmps12
  go_upto_region 1 with fail
  rw [← hW0]
  replace hW0 := Lib.hid hW0
  by_cases h40 : 40 < l.length
  · go_wp2_with (first | (go_at_call 16; refine (great_any _ _ pl _ _ (h.below hX0.out.below)).mono ?_; rintro e w1 ⟨⟨b, rfl, hgr⟩, hb1⟩; have hX1 := Lib.hid (hX0.out.later hb1)) | (go_at_call 39; refine (long_any _ _ l _ (hl.below hX1.out.below)).mono ?_; rintro e w2 ⟨⟨b2, rfl, hlg⟩, hb2⟩; have hX2 := Lib.hid (hX1.out.later hb2)) | (go_at_call 17; refine (lives_any _).mono ?_; rintro e wL ⟨rfl, hbL⟩))
    all_goals go_ret
    all_goals first
      | exact ⟨rfl, (hX2.out.later hbL).below⟩
      | exact ⟨rfl, (hX1.out.later hbL).below⟩
  · go_wp2_with (first | (go_at_call 16; refine (great_any _ _ pl _ _ (h.below hX0.out.below)).mono ?_; rintro e w1 ⟨⟨b, rfl, hgr⟩, hb1⟩; have hX1 := Lib.hid (hX0.out.later hb1)) | (go_at_call 39; refine (long_any _ _ l _ (hl.below hX1.out.below)).mono ?_; rintro e w2 ⟨⟨b2, rfl, hlg⟩, hb2⟩; have hX2 := Lib.hid (hX1.out.later hb2); obtain ⟨k0, k1⟩ := cells2 hX2.out.farm) | (go_at_call 17; refine (lives_any _).mono ?_; rintro e wL ⟨rfl, hbL⟩))
    · go_ret
      exact ⟨rfl, (hX1.out.later hbL).below⟩
    · go_ret
      exact ⟨rfl, (hX2.out.later hbL).below⟩
    go_at_call 23
    (with_reducible refine (c23.out _ hX2.out).mono ?_)
    rintro e w3 ⟨s, rfl, hrs, hss, hb3⟩
    have hX3 := Lib.hid (hX2.out.later hb3)
    have hsc := Lib.hid (new_same hss)
    clear p0 p1 k0 k1 hb1 hb2 hb3 c23 hgr hlg hss
    go_upto_region 4 with fail
    obtain ⟨ws, hws⟩ : ∃ x, x = w3.alloc (.cells (storeCells s) 43) := ⟨_, rfl⟩
    obtain ⟨bs, hbs⟩ : ∃ x, x = w3.heap.size := ⟨_, rfl⟩
    rw [← hws, ← hbs]
    have hbw : Below w3.heap.size w3 ws := by rw [hws]; exact (Below.refl _ w3).alloc (Nat.le_refl _) _
    have hxs : ws.heap[bs]? = some (.cells (storeCells s) 43 (0, 0)) := by rw [hws, hbs]; exact heap_new _ _ _ rfl
    have hXs := Lib.hid (hX3.out.later hbw)
    have hS : Hid (HasS ws bs s) := ⟨hxs, hrs.below hbw⟩
    clear hrs hbw hxs
    replace hws := Lib.hid hws
    replace hbs := Lib.hid hbs
    by_cases h0 : ck = 0
    · have h0b : (ck != 0) = false := by simpa using h0
      have hci : checkI pl dry = 0 := hck.out.symm.trans h0
      have hct : checkS pl dry s = 0 := (hsc.out.checkS pl dry).trans (new_check hci)
      have hrun : ∀ m : List Chore, m.length ≤ l.length → runP pl dry s m = runL pl dry s m := fun m hm => by unfold runP; rw [if_neg (by simp [hct]), if_neg (by omega)]
      obtain ⟨e1, e2, e3⟩ := (check_ok hct).lens
      have c38 : Hid (∀ (W : World) (C : Option Addr) (cc : Nat) (m : List Chore), LF w A c pl dry W → RdStore W s → RdChores W C m → m.length ≤ l.length → Calls Try.prog 38 #[.agg #[.slice A pl.length c, .int .i64 dry], storeVal s, .slice C m.length cc] W (RunOut (runL pl dry s m) W)) := fun W C cc m hW hR hC hm => hrun m hm ▸ run_any A c pl dry s C cc m W (h.below hW.below) hR hC (by omega) (by omega) (fun x hx => by have := e3 x hx; omega)
      obtain ⟨n1, n2, n3⟩ := runL_bounds (pl := pl) (dry := dry) l s
      obtain ⟨n, hn⟩ : ∃ n : Nat, (runL pl dry s l).2.1 = (n : Int) := ⟨(runL pl dry s l).2.1.toNat, by omega⟩
      have hah := runL_ahead hn
      have hsp := fun k (hk : k ≤ n) => runL_split (pl := pl) (dry := dry) k l s (by omega)
      obtain ⟨er, her⟩ : ∃ er, er = (runL pl dry s l).2.2 := ⟨_, rfl⟩
      obtain ⟨v, hv⟩ : ∃ v, v = (runL pl dry s l).1 := ⟨_, rfl⟩
      have hR : runL pl dry s l = (v, (n : Int), er) := by rw [hv, ← hn, her]
      rw [← hv] at hah
      rw [hR] at n3
      dsimp only at n3
      have hnl : n ≤ l.length := by omega
      replace hR := Lib.hid hR
      replace hah := Lib.hid hah
      replace hsp := Lib.hid hsp
      replace hct := Lib.hid hct
      replace hci := Lib.hid hci
      have c38a := c38.out ws B cb l hXs.out hS.out.rd (hl.below hXs.out.below) (Nat.le_refl _)
      rw [hR.out] at c38a
      replace c38a := Lib.hid c38a
      clear hrun e1 e2 e3 n1 n2 hn her hv
      obtain ⟨m0, m1, m2, m3, m4, m5⟩ := six_cells hS.out.cells
      obtain ⟨k0, k1⟩ := cells2 hXs.out.farm
      replace h0 := Lib.hid h0
      go_wp2_with fail
      go_at_call 38
      (with_reducible refine c38a.out.mono ?_)
      rintro e w4 ⟨al, rfl, hal, hra, hb4, _⟩
      have hX4 := Lib.hid (hXs.out.later hb4)
      have hS4 := Lib.hid (hS.out.later hb4)
      clear m0 m1 m2 m3 m4 m5 k0 k1 c38a
      go_upto_region 7 with fail
      obtain ⟨wa, hwa⟩ : ∃ x, x = w4.alloc (.cells (storeCells al) 43) := ⟨_, rfl⟩
      obtain ⟨ba, hba⟩ : ∃ x, x = w4.heap.size := ⟨_, rfl⟩
      rw [← hwa, ← hba]
      have hbw : Below w4.heap.size w4 wa := by rw [hwa]; exact (Below.refl _ w4).alloc (Nat.le_refl _) _
      have hA5 : Hid (HasS wa ba al) := ⟨by rw [hwa, hba]; exact heap_new _ _ _ rfl, hra.below hbw⟩
      have hX5 := Lib.hid (hX4.out.later hbw)
      have hS5 := Lib.hid (hS4.out.later hbw)
      clear hra hbw hb4 hX4 hS4 hXs hS
      replace hwa := Lib.hid hwa
      replace hba := Lib.hid hba
      replace hal := Lib.hid hal
      obtain ⟨bb, hb1, hb2⟩ : ∃ bb : Bool, (er == 0) = bb ∧ ((n : Int) == (l.length : Int)) = bb := by
        refine ⟨er == 0, rfl, ?_⟩
        rw [Bool.eq_iff_iff]
        simp only [beq_iff_eq]
        rw [n3]
      replace n3 := Lib.hid n3
      have hP0 : Hid (PX w A c pl dry [(ba, al), (bs, s)] wa) := ⟨hX5.out, by
        intro p hp
        simp only [List.mem_cons, List.not_mem_nil, or_false] at hp
        rcases hp with rfl | rfl
        · exact hA5.out
        · exact hS5.out⟩
      clear hA5 hS5 hX5
      have hlt : (l.take n).length = n := by simp; omega
      have hncb : n ≤ cb := by omega
      have c38b : Hid (∀ W, PX w A c pl dry [(ba, al), (bs, s)] W → Calls Try.prog 38 #[.agg #[.slice A pl.length c, .int .i64 dry], storeVal s, .slice B n cb] W (RunOut (v, (n : Int), 0) W)) := fun W hW => by
        have := c38.out W B cb (l.take n) hW.lf (hW.has (bs, s) (by simp)).rd ((hl.below hW.lf.below).take n) (by omega)
        rw [hlt, hah.out] at this
        exact this
      go_upto_region 9 with fail
      go_cut [11, 12, 13] (fun va vb vc wx => ∃ (b : Nat) (t : Store), va = ptr b ∧ vb = .int .i64 ((n : Int)) ∧ vc = .int .i64 0 ∧ Hid (PX w A c pl dry ((b, t) :: [(ba, al), (bs, s)]) wx) ∧ Hid (SameC t v))
      case first =>
        obtain ⟨wq, hwq⟩ : ∃ x, x = wa.drew := ⟨_, rfl⟩
        have hPq : Hid (PX w A c pl dry [(ba, al), (bs, s)] wq) := by rw [hwq]; exact hP0.out.later (below_drewN_ wa 1)
        have hcl := Lib.hid (fun W (hW : PX w A c pl dry [(ba, al), (bs, s)] W) => And.intro (cells2 hW.lf.farm) (six_cells (hW.has (bs, s) (by simp)).cells))
        refine wp_region_tree (fun W => PX w A c pl dry [(ba, al), (bs, s)] W) (.read 0 (.read 1 (.pure 2 (.pure 3 (.pure 4 (.two 5 (.pure 6 (.pure 7 (.pure 8 (.pure 9 (.one 10 (.one 11 (.pure 12 (.pure 13 .done)))))))) 10 (.one 5 (.pure 6 (.pure 7 (.pure 8 (.pure 9 (.one 11 (.pure 12 (.pure 13 .done)))))))))))))) [11] (by kernel_rfl) (by kernel_rfl) (by rw [← hwq]; exact hPq.out) ?_
        rw [← hwq]
        replace hwq := Lib.hid hwq
        refine wpTree_take (v := ?_) rfl (by rfl) ?_ (fun _ _ _ h => h) ?_
        rotate_left
        focus (intro w' hSw; obtain ⟨⟨k0, k1⟩, j0, j1, j2, j3, j4, j5⟩ := hcl.out _ hSw; clear hSw; (try simp only [List.getElem_toArray, List.getElem_cons_zero, List.getElem_cons_succ]); go_simp; try with_reducible rfl)
        simp only [List.getElem_toArray, List.getElem_cons_zero, List.getElem_cons_succ, Act.put, List.setIfInBounds_toArray, List.set_cons_zero, List.set_cons_succ]
        refine wpTree_take (v := ?_) rfl (by rfl) ?_ (fun _ _ _ h => h) ?_
        rotate_left
        focus (intro w' hSw; obtain ⟨⟨k0, k1⟩, j0, j1, j2, j3, j4, j5⟩ := hcl.out _ hSw; clear hSw; (try simp only [List.getElem_toArray, List.getElem_cons_zero, List.getElem_cons_succ]); go_simp; try with_reducible rfl)
        simp only [List.getElem_toArray, List.getElem_cons_zero, List.getElem_cons_succ, Act.put, List.setIfInBounds_toArray, List.set_cons_zero, List.set_cons_succ]
        refine wpTree_pure (v := ?_) rfl (by rfl) ?_ (fun _ _ _ h => h) ?_
        rotate_left
        focus (intro w'; (try simp only [List.getElem_toArray, List.getElem_cons_zero, List.getElem_cons_succ]); go_simp; try with_reducible rfl)
        simp only [List.getElem_toArray, List.getElem_cons_zero, List.getElem_cons_succ, Act.put, List.setIfInBounds_toArray, List.set_cons_zero, List.set_cons_succ]
        refine wpTree_pure (v := ?_) rfl (by rfl) ?_ (fun _ _ _ h => h) ?_
        rotate_left
        focus (intro w'; (try simp only [List.getElem_toArray, List.getElem_cons_zero, List.getElem_cons_succ]); go_simp; try with_reducible rfl)
        simp only [List.getElem_toArray, List.getElem_cons_zero, List.getElem_cons_succ, Act.put, List.setIfInBounds_toArray, List.set_cons_zero, List.set_cons_succ]
        refine wpTree_pure (v := ?_) rfl (by rfl) ?_ (fun _ _ _ h => h) ?_
        rotate_left
        focus (intro w'; (try simp only [List.getElem_toArray, List.getElem_cons_zero, List.getElem_cons_succ]); go_simp; try with_reducible rfl)
        simp only [List.getElem_toArray, List.getElem_cons_zero, List.getElem_cons_succ, Act.put, List.setIfInBounds_toArray, List.set_cons_zero, List.set_cons_succ]
        clear hcl
        refine wpTree_two rfl (by rfl) rfl (by rfl) ?_ ?_
        (try simp only [List.getElem_toArray, List.getElem_cons_zero, List.getElem_cons_succ])
        go_simp
        go_at_call 38
        (with_reducible refine (c38b.out _ hPq.out).mono ?_)
        rintro e w5 ⟨t, rfl, hst, hrt, hb5, hft⟩
        have hP5 := Lib.hid (hPq.out.later hb5)
        refine ⟨fun _ => hP5.out, ?_⟩
        clear hb5
        refine wpTree_pure (v := ?_) rfl (by rfl) ?_ (fun _ _ _ h => h) ?_
        rotate_left
        focus (intro w'; (try simp only [List.getElem_toArray, List.getElem_cons_zero, List.getElem_cons_succ]); go_simp; try with_reducible rfl)
        simp only [List.getElem_toArray, List.getElem_cons_zero, List.getElem_cons_succ, Act.put, List.setIfInBounds_toArray, List.set_cons_zero, List.set_cons_succ]
        refine wpTree_pure (v := ?_) rfl (by rfl) ?_ (fun _ _ _ h => h) ?_
        rotate_left
        focus (intro w'; (try simp only [List.getElem_toArray, List.getElem_cons_zero, List.getElem_cons_succ]); go_simp; try with_reducible rfl)
        simp only [List.getElem_toArray, List.getElem_cons_zero, List.getElem_cons_succ, Act.put, List.setIfInBounds_toArray, List.set_cons_zero, List.set_cons_succ]
        refine wpTree_pure (v := ?_) rfl (by rfl) ?_ (fun _ _ _ h => h) ?_
        rotate_left
        focus (intro w'; (try simp only [List.getElem_toArray, List.getElem_cons_zero, List.getElem_cons_succ]); go_simp; try with_reducible rfl)
        simp only [List.getElem_toArray, List.getElem_cons_zero, List.getElem_cons_succ, Act.put, List.setIfInBounds_toArray, List.set_cons_zero, List.set_cons_succ]
        refine wpTree_pure (v := ?_) rfl (by rfl) ?_ (fun _ _ _ h => h) ?_
        rotate_left
        focus (intro w'; (try simp only [List.getElem_toArray, List.getElem_cons_zero, List.getElem_cons_succ]); go_simp; try with_reducible rfl)
        simp only [List.getElem_toArray, List.getElem_cons_zero, List.getElem_cons_succ, Act.put, List.setIfInBounds_toArray, List.set_cons_zero, List.set_cons_succ]
        refine wpTree_do rfl (by rfl) ?_
        (try simp only [List.getElem_toArray, List.getElem_cons_zero, List.getElem_cons_succ])
        go_simp
        obtain ⟨b6, hb6⟩ : ∃ b, b = w5.heap.size := ⟨_, rfl⟩
        rw [← hb6]
        obtain ⟨wz, hwz⟩ : ∃ x, x = w5.alloc (.cells (storeCells noStore) 43) := ⟨_, rfl⟩
        unfold storeCells noStore at hwz
        simp only [List.length_nil] at hwz
        rw [← hwz]
        have hba : Below w5.heap.size w5 wz := by rw [hwz]; exact (Below.refl _ w5).alloc (Nat.le_refl _) _
        have hxz : wz.heap[b6]? = some (.cells (storeCells noStore) 43 (0, 0)) := by rw [hwz, hb6]; exact heap_new _ _ _ rfl
        have hPz := Lib.hid (hP5.out.later hba)
        have hE : Hid (PX w A c pl dry ((b6, t) :: [(ba, al), (bs, s)]) (putS wz b6 t)) := hP5.out.pushA hba hxz (by omega) hrt
        refine ⟨fun _ => hPz.out, ?_⟩
        clear hba hwz hb6 hrt hft hP5 hPz
        rotate_left 1
        (try simp only [List.getElem_toArray, List.getElem_cons_zero, List.getElem_cons_succ])
        go_simp
        obtain ⟨b6, hb6⟩ : ∃ b, b = wq.heap.size := ⟨_, rfl⟩
        rw [← hb6]
        obtain ⟨wz, hwz⟩ : ∃ x, x = wq.alloc (.cells (storeCells noStore) 43) := ⟨_, rfl⟩
        unfold storeCells noStore at hwz
        simp only [List.length_nil] at hwz
        rw [← hwz]
        have hba : Below wq.heap.size wq wz := by rw [hwz]; exact (Below.refl _ wq).alloc (Nat.le_refl _) _
        have hxa : wz.heap[b6]? = some (.cells (storeCells noStore) 43 (0, 0)) := by rw [hwz, hb6]; exact heap_new _ _ _ rfl
        have hPz := Lib.hid (hPq.out.later hba)
        have hbq : Hid (wq.heap.size ≤ b6) := by unfold Hid; omega
        replace hba := Lib.hid hba
        refine ⟨fun _ => hPz.out, ?_⟩
        clear hwz hb6
        refine wpTree_do rfl (by rfl) ?_
        (try simp only [List.getElem_toArray, List.getElem_cons_zero, List.getElem_cons_succ])
        go_simp
        go_at_call 38
        (with_reducible refine (c38b.out _ hPz.out).mono ?_)
        rintro e w5 ⟨t, rfl, hst, hrt, hb5, hft⟩
        have hP5 := Lib.hid (hPz.out.later hb5)
        have hxz := (hb5.block b6 (Array.getElem?_eq_some_iff.1 hxa).1).trans hxa
        refine ⟨fun _ => hP5.out, ?_⟩
        have hE : Hid (PX w A c pl dry ((b6, t) :: [(ba, al), (bs, s)]) (putS w5 b6 t)) := hPq.out.pushB (hba.out.trans (hb5.mono hba.out.size)) hxz hbq.out hrt hft (Array.getElem?_eq_some_iff.1 hxa).1
        clear hba hbq hxa hb5 hrt hft hPz hP5
        obtain ⟨wz, rfl⟩ : ∃ x, x = w5 := ⟨_, rfl⟩
        refine wpTree_pure (v := ?_) rfl (by rfl) ?_ (fun _ _ _ h => h) ?_
        rotate_left
        focus (intro w'; (try simp only [List.getElem_toArray, List.getElem_cons_zero, List.getElem_cons_succ]); go_simp; try with_reducible rfl)
        simp only [List.getElem_toArray, List.getElem_cons_zero, List.getElem_cons_succ, Act.put, List.setIfInBounds_toArray, List.set_cons_zero, List.set_cons_succ]
        refine wpTree_pure (v := ?_) rfl (by rfl) ?_ (fun _ _ _ h => h) ?_
        rotate_left
        focus (intro w'; (try simp only [List.getElem_toArray, List.getElem_cons_zero, List.getElem_cons_succ]); go_simp; try with_reducible rfl)
        simp only [List.getElem_toArray, List.getElem_cons_zero, List.getElem_cons_succ, Act.put, List.setIfInBounds_toArray, List.set_cons_zero, List.set_cons_succ]
        refine wpTree_pure (v := ?_) rfl (by rfl) ?_ (fun _ _ _ h => h) ?_
        rotate_left
        focus (intro w'; (try simp only [List.getElem_toArray, List.getElem_cons_zero, List.getElem_cons_succ]); go_simp; try with_reducible rfl)
        simp only [List.getElem_toArray, List.getElem_cons_zero, List.getElem_cons_succ, Act.put, List.setIfInBounds_toArray, List.set_cons_zero, List.set_cons_succ]
        refine wpTree_pure (v := ?_) rfl (by rfl) ?_ (fun _ _ _ h => h) ?_
        rotate_left
        focus (intro w'; (try simp only [List.getElem_toArray, List.getElem_cons_zero, List.getElem_cons_succ]); go_simp; try with_reducible rfl)
        simp only [List.getElem_toArray, List.getElem_cons_zero, List.getElem_cons_succ, Act.put, List.setIfInBounds_toArray, List.set_cons_zero, List.set_cons_succ]
        all_goals
          have hfr : ∀ j, wz.frozen? ⟨b6, j, none⟩ = false := fun j => frozen_of_row wz _ j _ _ hxz
          have f0 := hfr 0
          have f1 := hfr 1
          have f2 := hfr 2
          have f3 := hfr 3
          have f4 := hfr 4
          have f5 := hfr 5
          obtain ⟨m0, m1, m2, m3, m4, m5⟩ := six_cells hxz
          clear hfr
          refine wpTree_do rfl (by rfl) ?_
          (try simp only [List.getElem_toArray, List.getElem_cons_zero, List.getElem_cons_succ])
          go_simp
          obtain ⟨w6, hw6⟩ : ∃ x, x = putS wz b6 t := ⟨_, rfl⟩
          rw [← hw6] at hE
          unfold putS at hw6
          rw [← hw6]
          clear f0 f1 f2 f3 f4 f5 m0 m1 m2 m3 m4 m5 hxz
          replace hw6 := Lib.hid hw6
          replace hst := Lib.hid hst
          refine wpTree_pure (v := ?_) rfl (by rfl) ?_ (fun _ _ _ h => h) ?_
          rotate_left
          focus (intro w'; (try simp only [List.getElem_toArray, List.getElem_cons_zero, List.getElem_cons_succ]); go_simp; try with_reducible rfl)
          simp only [List.getElem_toArray, List.getElem_cons_zero, List.getElem_cons_succ, Act.put, List.setIfInBounds_toArray, List.set_cons_zero, List.set_cons_succ]
          refine wpTree_pure (v := ?_) rfl (by rfl) ?_ (fun _ _ _ h => h) ?_
          rotate_left
          focus (intro w'; (try simp only [List.getElem_toArray, List.getElem_cons_zero, List.getElem_cons_succ]); go_simp; try with_reducible rfl)
          simp only [List.getElem_toArray, List.getElem_cons_zero, List.getElem_cons_succ, Act.put, List.setIfInBounds_toArray, List.set_cons_zero, List.set_cons_succ]
          unfold wpTree
          go_wp2_with fail
          go_meet
          exact ⟨b6, t, rfl, rfl, rfl, hE, hst⟩
      obtain ⟨bd, ad, rfl, rfl, rfl, hPbd, hSbd⟩ := hcut
      obtain ⟨wd, rfl⟩ : ∃ x, x = wc := ⟨_, rfl⟩
      have hH1 := (hPbd.out).has (ba, al) (by simp)
      have hH2 := (hPbd.out).has (bd, ad) (by simp)
      have c27 := Lib.hid (sameStore_any al ad wd hH1.rd hH2.rd (hal.out.trans hSbd.out.symm).sameS)
      obtain ⟨m0, m1, m2, m3, m4, m5⟩ := six_cells hH1.cells
      obtain ⟨j0, j1, j2, j3, j4, j5⟩ := six_cells hH2.cells
      clear hH1 hH2
      obtain ⟨k, hk, hkn⟩ : ∃ k : Nat, x.tmod ((n : Int) + 1) = (k : Int) ∧ k ≤ n := by
        have h1 := Int.tmod_nonneg ((n : Int) + 1) hx.1
        have h2 := Int.tmod_lt_of_pos x (b := ((n : Int) + 1)) (by omega)
        exact ⟨(x.tmod ((n : Int) + 1)).toNat, by omega, by omega⟩
      have hwx : IntKind.i64.wrap x = x := IntWalk.i64_in _ (by omega)
      have hwn : IntKind.i64.wrap ((n : Int) + 1) = (n : Int) + 1 := IntWalk.i64_in _ (by omega)
      have hwk : IntKind.i64.wrap (k : Int) = (k : Int) := IntWalk.i64_in _ (by omega)
      go_wp2_with (go_at_call 27; refine c27.out.mono ?_; rintro e we ⟨rfl, hbe⟩; have hPe := Lib.hid (hPbd.out.later hbe))
      clear m0 m1 m2 m3 m4 m5 j0 j1 j2 j3 j4 j5 hbe c27
      obtain ⟨u, hu⟩ : ∃ u, u = (runL pl dry s (l.take k)).1 := ⟨_, rfl⟩
      obtain ⟨q1, q2⟩ := hsp.out k hkn
      rw [← hu, hR.out] at q2
      have q3 : runL pl dry s (l.take k) = (u, (k : Int), 0) := by rw [hu, ← q1]
      have hcu : checkS pl dry u = 0 := by rw [hu]; exact runL_check _ _ hct.out
      have hltk : (l.take k).length = k := by simp; omega
      have hkcb : k ≤ cb := by omega
      have hkl : k ≤ l.length := by omega
      have c38c : Hid (∀ W, PX w A c pl dry [(bd, ad), (ba, al), (bs, s)] W → Calls Try.prog 38 #[.agg #[.slice A pl.length c, .int .i64 dry], storeVal s, .slice B k cb] W (RunOut (u, (k : Int), 0) W)) := fun W hW => by
        have := c38.out W B cb (l.take k) hW.lf (hW.has (bs, s) (by simp)).rd ((hl.below hW.lf.below).take k) (by omega)
        rw [hltk, q3] at this
        exact this
      replace hk := Lib.hid hk
      replace hu := Lib.hid hu
      clear q1 q3
      replace q2 := Lib.hid q2
      replace hcu := Lib.hid hcu
      clear hwx hwn hwk hPbd hP0 c38b
      go_upto_region 13 with fail
      go_cut [15, 12, 13] (fun va vb vc wx => ∃ (b : Nat) (t : Store), va = ptr b ∧ vb = .int .i64 ((k : Int)) ∧ vc = .int .i64 0 ∧ Hid (PX w A c pl dry ((b, t) :: [(bd, ad), (ba, al), (bs, s)]) wx) ∧ Hid (SameC t u))
      case first =>
        obtain ⟨wq, hwq⟩ : ∃ x, x = we.drew := ⟨_, rfl⟩
        have hPq : Hid (PX w A c pl dry [(bd, ad), (ba, al), (bs, s)] wq) := by rw [hwq]; exact hPe.out.later (below_drewN_ we 1)
        have hcl := Lib.hid (fun W (hW : PX w A c pl dry [(bd, ad), (ba, al), (bs, s)] W) => And.intro (cells2 hW.lf.farm) (six_cells (hW.has (bs, s) (by simp)).cells))
        refine wp_region_tree (fun W => PX w A c pl dry [(bd, ad), (ba, al), (bs, s)] W) (.read 0 (.read 1 (.pure 2 (.pure 3 (.pure 4 (.two 5 (.pure 6 (.pure 7 (.pure 8 (.pure 9 (.one 10 (.one 11 (.pure 12 (.pure 13 .done)))))))) 10 (.one 5 (.pure 6 (.pure 7 (.pure 8 (.pure 9 (.one 11 (.pure 12 (.pure 13 .done)))))))))))))) [11] (by kernel_rfl) (by kernel_rfl) (by rw [← hwq]; exact hPq.out) ?_
        rw [← hwq]
        replace hwq := Lib.hid hwq
        refine wpTree_take (v := ?_) rfl (by rfl) ?_ (fun _ _ _ h => h) ?_
        rotate_left
        focus (intro w' hSw; obtain ⟨⟨k0, k1⟩, j0, j1, j2, j3, j4, j5⟩ := hcl.out _ hSw; clear hSw; (try simp only [List.getElem_toArray, List.getElem_cons_zero, List.getElem_cons_succ]); go_simp; try with_reducible rfl)
        simp only [List.getElem_toArray, List.getElem_cons_zero, List.getElem_cons_succ, Act.put, List.setIfInBounds_toArray, List.set_cons_zero, List.set_cons_succ]
        refine wpTree_take (v := ?_) rfl (by rfl) ?_ (fun _ _ _ h => h) ?_
        rotate_left
        focus (intro w' hSw; obtain ⟨⟨k0, k1⟩, j0, j1, j2, j3, j4, j5⟩ := hcl.out _ hSw; clear hSw; (try simp only [List.getElem_toArray, List.getElem_cons_zero, List.getElem_cons_succ]); go_simp; try with_reducible rfl)
        simp only [List.getElem_toArray, List.getElem_cons_zero, List.getElem_cons_succ, Act.put, List.setIfInBounds_toArray, List.set_cons_zero, List.set_cons_succ]
        refine wpTree_pure (v := ?_) rfl (by rfl) ?_ (fun _ _ _ h => h) ?_
        rotate_left
        focus (intro w'; (try simp only [List.getElem_toArray, List.getElem_cons_zero, List.getElem_cons_succ]); go_simp; try with_reducible rfl)
        simp only [List.getElem_toArray, List.getElem_cons_zero, List.getElem_cons_succ, Act.put, List.setIfInBounds_toArray, List.set_cons_zero, List.set_cons_succ]
        refine wpTree_pure (v := ?_) rfl (by rfl) ?_ (fun _ _ _ h => h) ?_
        rotate_left
        focus (intro w'; (try simp only [List.getElem_toArray, List.getElem_cons_zero, List.getElem_cons_succ]); go_simp; try with_reducible rfl)
        simp only [List.getElem_toArray, List.getElem_cons_zero, List.getElem_cons_succ, Act.put, List.setIfInBounds_toArray, List.set_cons_zero, List.set_cons_succ]
        refine wpTree_pure (v := ?_) rfl (by rfl) ?_ (fun _ _ _ h => h) ?_
        rotate_left
        focus (intro w'; (try simp only [List.getElem_toArray, List.getElem_cons_zero, List.getElem_cons_succ]); go_simp; try with_reducible rfl)
        simp only [List.getElem_toArray, List.getElem_cons_zero, List.getElem_cons_succ, Act.put, List.setIfInBounds_toArray, List.set_cons_zero, List.set_cons_succ]
        clear hcl
        refine wpTree_two rfl (by rfl) rfl (by rfl) ?_ ?_
        (try simp only [List.getElem_toArray, List.getElem_cons_zero, List.getElem_cons_succ])
        go_simp
        go_at_call 38
        (with_reducible refine (c38c.out _ hPq.out).mono ?_)
        rintro e w5 ⟨t, rfl, hst, hrt, hb5, hft⟩
        have hP5 := Lib.hid (hPq.out.later hb5)
        refine ⟨fun _ => hP5.out, ?_⟩
        clear hb5
        refine wpTree_pure (v := ?_) rfl (by rfl) ?_ (fun _ _ _ h => h) ?_
        rotate_left
        focus (intro w'; (try simp only [List.getElem_toArray, List.getElem_cons_zero, List.getElem_cons_succ]); go_simp; try with_reducible rfl)
        simp only [List.getElem_toArray, List.getElem_cons_zero, List.getElem_cons_succ, Act.put, List.setIfInBounds_toArray, List.set_cons_zero, List.set_cons_succ]
        refine wpTree_pure (v := ?_) rfl (by rfl) ?_ (fun _ _ _ h => h) ?_
        rotate_left
        focus (intro w'; (try simp only [List.getElem_toArray, List.getElem_cons_zero, List.getElem_cons_succ]); go_simp; try with_reducible rfl)
        simp only [List.getElem_toArray, List.getElem_cons_zero, List.getElem_cons_succ, Act.put, List.setIfInBounds_toArray, List.set_cons_zero, List.set_cons_succ]
        refine wpTree_pure (v := ?_) rfl (by rfl) ?_ (fun _ _ _ h => h) ?_
        rotate_left
        focus (intro w'; (try simp only [List.getElem_toArray, List.getElem_cons_zero, List.getElem_cons_succ]); go_simp; try with_reducible rfl)
        simp only [List.getElem_toArray, List.getElem_cons_zero, List.getElem_cons_succ, Act.put, List.setIfInBounds_toArray, List.set_cons_zero, List.set_cons_succ]
        refine wpTree_pure (v := ?_) rfl (by rfl) ?_ (fun _ _ _ h => h) ?_
        rotate_left
        focus (intro w'; (try simp only [List.getElem_toArray, List.getElem_cons_zero, List.getElem_cons_succ]); go_simp; try with_reducible rfl)
        simp only [List.getElem_toArray, List.getElem_cons_zero, List.getElem_cons_succ, Act.put, List.setIfInBounds_toArray, List.set_cons_zero, List.set_cons_succ]
        refine wpTree_do rfl (by rfl) ?_
        (try simp only [List.getElem_toArray, List.getElem_cons_zero, List.getElem_cons_succ])
        go_simp
        obtain ⟨b6, hb6⟩ : ∃ b, b = w5.heap.size := ⟨_, rfl⟩
        rw [← hb6]
        obtain ⟨wz, hwz⟩ : ∃ x, x = w5.alloc (.cells (storeCells noStore) 43) := ⟨_, rfl⟩
        unfold storeCells noStore at hwz
        simp only [List.length_nil] at hwz
        rw [← hwz]
        have hba : Below w5.heap.size w5 wz := by rw [hwz]; exact (Below.refl _ w5).alloc (Nat.le_refl _) _
        have hxz : wz.heap[b6]? = some (.cells (storeCells noStore) 43 (0, 0)) := by rw [hwz, hb6]; exact heap_new _ _ _ rfl
        have hPz := Lib.hid (hP5.out.later hba)
        have hE : Hid (PX w A c pl dry ((b6, t) :: [(bd, ad), (ba, al), (bs, s)]) (putS wz b6 t)) := hP5.out.pushA hba hxz (by omega) hrt
        refine ⟨fun _ => hPz.out, ?_⟩
        clear hba hwz hb6 hrt hft hP5 hPz
        rotate_left 1
        (try simp only [List.getElem_toArray, List.getElem_cons_zero, List.getElem_cons_succ])
        go_simp
        obtain ⟨b6, hb6⟩ : ∃ b, b = wq.heap.size := ⟨_, rfl⟩
        rw [← hb6]
        obtain ⟨wz, hwz⟩ : ∃ x, x = wq.alloc (.cells (storeCells noStore) 43) := ⟨_, rfl⟩
        unfold storeCells noStore at hwz
        simp only [List.length_nil] at hwz
        rw [← hwz]
        have hba : Below wq.heap.size wq wz := by rw [hwz]; exact (Below.refl _ wq).alloc (Nat.le_refl _) _
        have hxa : wz.heap[b6]? = some (.cells (storeCells noStore) 43 (0, 0)) := by rw [hwz, hb6]; exact heap_new _ _ _ rfl
        have hPz := Lib.hid (hPq.out.later hba)
        have hbq : Hid (wq.heap.size ≤ b6) := by unfold Hid; omega
        replace hba := Lib.hid hba
        refine ⟨fun _ => hPz.out, ?_⟩
        clear hwz hb6
        refine wpTree_do rfl (by rfl) ?_
        (try simp only [List.getElem_toArray, List.getElem_cons_zero, List.getElem_cons_succ])
        go_simp
        go_at_call 38
        (with_reducible refine (c38c.out _ hPz.out).mono ?_)
        rintro e w5 ⟨t, rfl, hst, hrt, hb5, hft⟩
        have hP5 := Lib.hid (hPz.out.later hb5)
        have hxz := (hb5.block b6 (Array.getElem?_eq_some_iff.1 hxa).1).trans hxa
        refine ⟨fun _ => hP5.out, ?_⟩
        have hE : Hid (PX w A c pl dry ((b6, t) :: [(bd, ad), (ba, al), (bs, s)]) (putS w5 b6 t)) := hPq.out.pushB (hba.out.trans (hb5.mono hba.out.size)) hxz hbq.out hrt hft (Array.getElem?_eq_some_iff.1 hxa).1
        clear hba hbq hxa hb5 hrt hft hPz hP5
        obtain ⟨wz, rfl⟩ : ∃ x, x = w5 := ⟨_, rfl⟩
        refine wpTree_pure (v := ?_) rfl (by rfl) ?_ (fun _ _ _ h => h) ?_
        rotate_left
        focus (intro w'; (try simp only [List.getElem_toArray, List.getElem_cons_zero, List.getElem_cons_succ]); go_simp; try with_reducible rfl)
        simp only [List.getElem_toArray, List.getElem_cons_zero, List.getElem_cons_succ, Act.put, List.setIfInBounds_toArray, List.set_cons_zero, List.set_cons_succ]
        refine wpTree_pure (v := ?_) rfl (by rfl) ?_ (fun _ _ _ h => h) ?_
        rotate_left
        focus (intro w'; (try simp only [List.getElem_toArray, List.getElem_cons_zero, List.getElem_cons_succ]); go_simp; try with_reducible rfl)
        simp only [List.getElem_toArray, List.getElem_cons_zero, List.getElem_cons_succ, Act.put, List.setIfInBounds_toArray, List.set_cons_zero, List.set_cons_succ]
        refine wpTree_pure (v := ?_) rfl (by rfl) ?_ (fun _ _ _ h => h) ?_
        rotate_left
        focus (intro w'; (try simp only [List.getElem_toArray, List.getElem_cons_zero, List.getElem_cons_succ]); go_simp; try with_reducible rfl)
        simp only [List.getElem_toArray, List.getElem_cons_zero, List.getElem_cons_succ, Act.put, List.setIfInBounds_toArray, List.set_cons_zero, List.set_cons_succ]
        refine wpTree_pure (v := ?_) rfl (by rfl) ?_ (fun _ _ _ h => h) ?_
        rotate_left
        focus (intro w'; (try simp only [List.getElem_toArray, List.getElem_cons_zero, List.getElem_cons_succ]); go_simp; try with_reducible rfl)
        simp only [List.getElem_toArray, List.getElem_cons_zero, List.getElem_cons_succ, Act.put, List.setIfInBounds_toArray, List.set_cons_zero, List.set_cons_succ]
        all_goals
          have hfr : ∀ j, wz.frozen? ⟨b6, j, none⟩ = false := fun j => frozen_of_row wz _ j _ _ hxz
          have f0 := hfr 0
          have f1 := hfr 1
          have f2 := hfr 2
          have f3 := hfr 3
          have f4 := hfr 4
          have f5 := hfr 5
          obtain ⟨m0, m1, m2, m3, m4, m5⟩ := six_cells hxz
          clear hfr
          refine wpTree_do rfl (by rfl) ?_
          (try simp only [List.getElem_toArray, List.getElem_cons_zero, List.getElem_cons_succ])
          go_simp
          obtain ⟨w6, hw6⟩ : ∃ x, x = putS wz b6 t := ⟨_, rfl⟩
          rw [← hw6] at hE
          unfold putS at hw6
          rw [← hw6]
          clear f0 f1 f2 f3 f4 f5 m0 m1 m2 m3 m4 m5 hxz
          replace hw6 := Lib.hid hw6
          replace hst := Lib.hid hst
          refine wpTree_pure (v := ?_) rfl (by rfl) ?_ (fun _ _ _ h => h) ?_
          rotate_left
          focus (intro w'; (try simp only [List.getElem_toArray, List.getElem_cons_zero, List.getElem_cons_succ]); go_simp; try with_reducible rfl)
          simp only [List.getElem_toArray, List.getElem_cons_zero, List.getElem_cons_succ, Act.put, List.setIfInBounds_toArray, List.set_cons_zero, List.set_cons_succ]
          refine wpTree_pure (v := ?_) rfl (by rfl) ?_ (fun _ _ _ h => h) ?_
          rotate_left
          focus (intro w'; (try simp only [List.getElem_toArray, List.getElem_cons_zero, List.getElem_cons_succ]); go_simp; try with_reducible rfl)
          simp only [List.getElem_toArray, List.getElem_cons_zero, List.getElem_cons_succ, Act.put, List.setIfInBounds_toArray, List.set_cons_zero, List.set_cons_succ]
          unfold wpTree
          go_wp2_with fail
          go_meet
          exact ⟨b6, t, rfl, rfl, rfl, hE, hst⟩
      obtain ⟨bk, ak, rfl, rfl, rfl, hPbk, hSbk⟩ := hcut
      obtain ⟨wk, rfl⟩ : ∃ x, x = wc := ⟨_, rfl⟩
      have hcak : checkS pl dry ak = 0 := (hSbk.out.checkS pl dry).trans hcu.out
      obtain ⟨e1, e2, e3⟩ := (check_ok hcak).lens
      obtain ⟨v', hv', hvv⟩ : ∃ v', runP pl dry ak (l.drop k) = (v', (n : Int) - (k : Int), er) ∧ SameC v' v := by
        have hdl : (l.drop k).length ≤ 40 := by simp; omega
        have h3 := hSbk.out.runP (pl := pl) (dry := dry) (l.drop k)
        have h4 : runP pl dry u (l.drop k) = (v, (n : Int) - k, er) := by
          unfold runP
          rw [if_neg (by simp [hcu.out]), if_neg (by omega)]
          exact q2.out
        rw [h4] at h3
        exact ⟨_, Prod.ext rfl h3.1, h3.2⟩
      obtain ⟨C, hCe⟩ : ∃ C, (if cb = k then B else Option.map (fun x => x.add (k * 9)) B) = C := ⟨_, rfl⟩
      have c38d : Hid (∀ W, PX w A c pl dry [(bk, ak), (bd, ad), (ba, al), (bs, s)] W → Calls Try.prog 38 #[.agg #[.slice A pl.length c, .int .i64 dry], storeVal ak, .slice C (l.length - k) (cb - k)] W (RunOut (v', (n : Int) - (k : Int), er) W)) := fun W hW => by
        have hC : RdChores W C (l.drop k) := hCe ▸ (hl.below hW.lf.below).dropB hcap
        have := run_any A c pl dry ak _ (cb - k) (l.drop k) W (h.below hW.lf.below) (hW.has (bk, ak) (by simp)).rd hC (by omega) (by omega) (fun x hx => by have := e3 x hx; omega)
        rw [hv', List.length_drop] at this
        exact this
      clear e1 e2 e3 hcak c38c
      replace hv' := Lib.hid hv'
      replace hvv := Lib.hid hvv
      go_upto_region 16 with fail
      go_cut [16, 12, 13] (fun va vb vc wx => ∃ (b : Nat) (t : Store), va = ptr b ∧ vb = .int .i64 ((n : Int) - (k : Int)) ∧ vc = .int .i64 er ∧ Hid (PX w A c pl dry ((b, t) :: [(bk, ak), (bd, ad), (ba, al), (bs, s)]) wx) ∧ Hid (SameC t v'))
      case first =>
        obtain ⟨wq, hwq⟩ : ∃ x, x = wk.drew := ⟨_, rfl⟩
        have hPq : Hid (PX w A c pl dry [(bk, ak), (bd, ad), (ba, al), (bs, s)] wq) := by rw [hwq]; exact hPbk.out.later (below_drewN_ wk 1)
        have hcl := Lib.hid (fun W (hW : PX w A c pl dry [(bk, ak), (bd, ad), (ba, al), (bs, s)] W) => And.intro (cells2 hW.lf.farm) (six_cells (hW.has (bk, ak) (by simp)).cells))
        refine wp_region_tree (fun W => PX w A c pl dry [(bk, ak), (bd, ad), (ba, al), (bs, s)] W) (.read 0 (.read 1 (.pure 2 (.pure 3 (.pure 4 (.two 5 (.pure 6 (.pure 7 (.pure 8 (.pure 9 (.one 10 (.one 11 (.pure 12 (.pure 13 .done)))))))) 10 (.one 5 (.pure 6 (.pure 7 (.pure 8 (.pure 9 (.one 11 (.pure 12 (.pure 13 .done)))))))))))))) [11] (by kernel_rfl) (by kernel_rfl) (by rw [← hwq]; exact hPq.out) ?_
        rw [← hwq]
        replace hwq := Lib.hid hwq
        refine wpTree_take (v := ?_) rfl (by rfl) ?_ (fun _ _ _ h => h) ?_
        rotate_left
        focus (intro w' hSw; obtain ⟨⟨k0, k1⟩, j0, j1, j2, j3, j4, j5⟩ := hcl.out _ hSw; clear hSw; (try simp only [List.getElem_toArray, List.getElem_cons_zero, List.getElem_cons_succ]); go_simp; try with_reducible rfl)
        simp only [List.getElem_toArray, List.getElem_cons_zero, List.getElem_cons_succ, Act.put, List.setIfInBounds_toArray, List.set_cons_zero, List.set_cons_succ]
        refine wpTree_take (v := ?_) rfl (by rfl) ?_ (fun _ _ _ h => h) ?_
        rotate_left
        focus (intro w' hSw; obtain ⟨⟨k0, k1⟩, j0, j1, j2, j3, j4, j5⟩ := hcl.out _ hSw; clear hSw; (try simp only [List.getElem_toArray, List.getElem_cons_zero, List.getElem_cons_succ]); go_simp; try with_reducible rfl)
        simp only [List.getElem_toArray, List.getElem_cons_zero, List.getElem_cons_succ, Act.put, List.setIfInBounds_toArray, List.set_cons_zero, List.set_cons_succ]
        refine wpTree_pure (v := ?_) rfl (by rfl) ?_ (fun _ _ _ h => h) ?_
        rotate_left
        focus (intro w'; (try simp only [List.getElem_toArray, List.getElem_cons_zero, List.getElem_cons_succ]); go_simp; try with_reducible rfl)
        simp only [List.getElem_toArray, List.getElem_cons_zero, List.getElem_cons_succ, Act.put, List.setIfInBounds_toArray, List.set_cons_zero, List.set_cons_succ]
        refine wpTree_pure (v := ?_) rfl (by rfl) ?_ (fun _ _ _ h => h) ?_
        rotate_left
        focus (intro w'; (try simp only [List.getElem_toArray, List.getElem_cons_zero, List.getElem_cons_succ]); go_simp; try with_reducible rfl)
        simp only [List.getElem_toArray, List.getElem_cons_zero, List.getElem_cons_succ, Act.put, List.setIfInBounds_toArray, List.set_cons_zero, List.set_cons_succ]
        refine wpTree_pure (v := ?_) rfl (by rfl) ?_ (fun _ _ _ h => h) ?_
        rotate_left
        focus (intro w'; (try simp only [List.getElem_toArray, List.getElem_cons_zero, List.getElem_cons_succ]); go_simp; try with_reducible rfl)
        simp only [List.getElem_toArray, List.getElem_cons_zero, List.getElem_cons_succ, Act.put, List.setIfInBounds_toArray, List.set_cons_zero, List.set_cons_succ]
        clear hcl
        refine wpTree_two rfl (by rfl) rfl (by rfl) ?_ ?_
        (try simp only [List.getElem_toArray, List.getElem_cons_zero, List.getElem_cons_succ])
        go_simp
        go_at_call 38
        (with_reducible refine (c38d.out _ hPq.out).mono ?_)
        rintro e w5 ⟨t, rfl, hst, hrt, hb5, hft⟩
        have hP5 := Lib.hid (hPq.out.later hb5)
        refine ⟨fun _ => hP5.out, ?_⟩
        clear hb5
        refine wpTree_pure (v := ?_) rfl (by rfl) ?_ (fun _ _ _ h => h) ?_
        rotate_left
        focus (intro w'; (try simp only [List.getElem_toArray, List.getElem_cons_zero, List.getElem_cons_succ]); go_simp; try with_reducible rfl)
        simp only [List.getElem_toArray, List.getElem_cons_zero, List.getElem_cons_succ, Act.put, List.setIfInBounds_toArray, List.set_cons_zero, List.set_cons_succ]
        refine wpTree_pure (v := ?_) rfl (by rfl) ?_ (fun _ _ _ h => h) ?_
        rotate_left
        focus (intro w'; (try simp only [List.getElem_toArray, List.getElem_cons_zero, List.getElem_cons_succ]); go_simp; try with_reducible rfl)
        simp only [List.getElem_toArray, List.getElem_cons_zero, List.getElem_cons_succ, Act.put, List.setIfInBounds_toArray, List.set_cons_zero, List.set_cons_succ]
        refine wpTree_pure (v := ?_) rfl (by rfl) ?_ (fun _ _ _ h => h) ?_
        rotate_left
        focus (intro w'; (try simp only [List.getElem_toArray, List.getElem_cons_zero, List.getElem_cons_succ]); go_simp; try with_reducible rfl)
        simp only [List.getElem_toArray, List.getElem_cons_zero, List.getElem_cons_succ, Act.put, List.setIfInBounds_toArray, List.set_cons_zero, List.set_cons_succ]
        refine wpTree_pure (v := ?_) rfl (by rfl) ?_ (fun _ _ _ h => h) ?_
        rotate_left
        focus (intro w'; (try simp only [List.getElem_toArray, List.getElem_cons_zero, List.getElem_cons_succ]); go_simp; try with_reducible rfl)
        simp only [List.getElem_toArray, List.getElem_cons_zero, List.getElem_cons_succ, Act.put, List.setIfInBounds_toArray, List.set_cons_zero, List.set_cons_succ]
        refine wpTree_do rfl (by rfl) ?_
        (try simp only [List.getElem_toArray, List.getElem_cons_zero, List.getElem_cons_succ])
        go_simp
        obtain ⟨b6, hb6⟩ : ∃ b, b = w5.heap.size := ⟨_, rfl⟩
        rw [← hb6]
        obtain ⟨wz, hwz⟩ : ∃ x, x = w5.alloc (.cells (storeCells noStore) 43) := ⟨_, rfl⟩
        unfold storeCells noStore at hwz
        simp only [List.length_nil] at hwz
        rw [← hwz]
        have hba : Below w5.heap.size w5 wz := by rw [hwz]; exact (Below.refl _ w5).alloc (Nat.le_refl _) _
        have hxz : wz.heap[b6]? = some (.cells (storeCells noStore) 43 (0, 0)) := by rw [hwz, hb6]; exact heap_new _ _ _ rfl
        have hPz := Lib.hid (hP5.out.later hba)
        have hE : Hid (PX w A c pl dry ((b6, t) :: [(bk, ak), (bd, ad), (ba, al), (bs, s)]) (putS wz b6 t)) := hP5.out.pushA hba hxz (by omega) hrt
        refine ⟨fun _ => hPz.out, ?_⟩
        clear hba hwz hb6 hrt hft hP5 hPz
        rotate_left 1
        (try simp only [List.getElem_toArray, List.getElem_cons_zero, List.getElem_cons_succ])
        go_simp
        obtain ⟨b6, hb6⟩ : ∃ b, b = wq.heap.size := ⟨_, rfl⟩
        rw [← hb6]
        obtain ⟨wz, hwz⟩ : ∃ x, x = wq.alloc (.cells (storeCells noStore) 43) := ⟨_, rfl⟩
        unfold storeCells noStore at hwz
        simp only [List.length_nil] at hwz
        rw [← hwz]
        have hba : Below wq.heap.size wq wz := by rw [hwz]; exact (Below.refl _ wq).alloc (Nat.le_refl _) _
        have hxa : wz.heap[b6]? = some (.cells (storeCells noStore) 43 (0, 0)) := by rw [hwz, hb6]; exact heap_new _ _ _ rfl
        have hPz := Lib.hid (hPq.out.later hba)
        have hbq : Hid (wq.heap.size ≤ b6) := by unfold Hid; omega
        replace hba := Lib.hid hba
        refine ⟨fun _ => hPz.out, ?_⟩
        clear hwz hb6
        refine wpTree_do rfl (by rfl) ?_
        (try simp only [List.getElem_toArray, List.getElem_cons_zero, List.getElem_cons_succ])
        go_simp
        go_at_call 38
        (with_reducible refine (c38d.out _ hPz.out).mono ?_)
        rintro e w5 ⟨t, rfl, hst, hrt, hb5, hft⟩
        have hP5 := Lib.hid (hPz.out.later hb5)
        have hxz := (hb5.block b6 (Array.getElem?_eq_some_iff.1 hxa).1).trans hxa
        refine ⟨fun _ => hP5.out, ?_⟩
        have hE : Hid (PX w A c pl dry ((b6, t) :: [(bk, ak), (bd, ad), (ba, al), (bs, s)]) (putS w5 b6 t)) := hPq.out.pushB (hba.out.trans (hb5.mono hba.out.size)) hxz hbq.out hrt hft (Array.getElem?_eq_some_iff.1 hxa).1
        clear hba hbq hxa hb5 hrt hft hPz hP5
        obtain ⟨wz, rfl⟩ : ∃ x, x = w5 := ⟨_, rfl⟩
        refine wpTree_pure (v := ?_) rfl (by rfl) ?_ (fun _ _ _ h => h) ?_
        rotate_left
        focus (intro w'; (try simp only [List.getElem_toArray, List.getElem_cons_zero, List.getElem_cons_succ]); go_simp; try with_reducible rfl)
        simp only [List.getElem_toArray, List.getElem_cons_zero, List.getElem_cons_succ, Act.put, List.setIfInBounds_toArray, List.set_cons_zero, List.set_cons_succ]
        refine wpTree_pure (v := ?_) rfl (by rfl) ?_ (fun _ _ _ h => h) ?_
        rotate_left
        focus (intro w'; (try simp only [List.getElem_toArray, List.getElem_cons_zero, List.getElem_cons_succ]); go_simp; try with_reducible rfl)
        simp only [List.getElem_toArray, List.getElem_cons_zero, List.getElem_cons_succ, Act.put, List.setIfInBounds_toArray, List.set_cons_zero, List.set_cons_succ]
        refine wpTree_pure (v := ?_) rfl (by rfl) ?_ (fun _ _ _ h => h) ?_
        rotate_left
        focus (intro w'; (try simp only [List.getElem_toArray, List.getElem_cons_zero, List.getElem_cons_succ]); go_simp; try with_reducible rfl)
        simp only [List.getElem_toArray, List.getElem_cons_zero, List.getElem_cons_succ, Act.put, List.setIfInBounds_toArray, List.set_cons_zero, List.set_cons_succ]
        refine wpTree_pure (v := ?_) rfl (by rfl) ?_ (fun _ _ _ h => h) ?_
        rotate_left
        focus (intro w'; (try simp only [List.getElem_toArray, List.getElem_cons_zero, List.getElem_cons_succ]); go_simp; try with_reducible rfl)
        simp only [List.getElem_toArray, List.getElem_cons_zero, List.getElem_cons_succ, Act.put, List.setIfInBounds_toArray, List.set_cons_zero, List.set_cons_succ]
        all_goals
          have hfr : ∀ j, wz.frozen? ⟨b6, j, none⟩ = false := fun j => frozen_of_row wz _ j _ _ hxz
          have f0 := hfr 0
          have f1 := hfr 1
          have f2 := hfr 2
          have f3 := hfr 3
          have f4 := hfr 4
          have f5 := hfr 5
          obtain ⟨m0, m1, m2, m3, m4, m5⟩ := six_cells hxz
          clear hfr
          refine wpTree_do rfl (by rfl) ?_
          (try simp only [List.getElem_toArray, List.getElem_cons_zero, List.getElem_cons_succ])
          go_simp
          obtain ⟨w6, hw6⟩ : ∃ x, x = putS wz b6 t := ⟨_, rfl⟩
          rw [← hw6] at hE
          unfold putS at hw6
          rw [← hw6]
          clear f0 f1 f2 f3 f4 f5 m0 m1 m2 m3 m4 m5 hxz
          replace hw6 := Lib.hid hw6
          replace hst := Lib.hid hst
          refine wpTree_pure (v := ?_) rfl (by rfl) ?_ (fun _ _ _ h => h) ?_
          rotate_left
          focus (intro w'; (try simp only [List.getElem_toArray, List.getElem_cons_zero, List.getElem_cons_succ]); go_simp; try with_reducible rfl)
          simp only [List.getElem_toArray, List.getElem_cons_zero, List.getElem_cons_succ, Act.put, List.setIfInBounds_toArray, List.set_cons_zero, List.set_cons_succ]
          refine wpTree_pure (v := ?_) rfl (by rfl) ?_ (fun _ _ _ h => h) ?_
          rotate_left
          focus (intro w'; (try simp only [List.getElem_toArray, List.getElem_cons_zero, List.getElem_cons_succ]); go_simp; try with_reducible rfl)
          simp only [List.getElem_toArray, List.getElem_cons_zero, List.getElem_cons_succ, Act.put, List.setIfInBounds_toArray, List.set_cons_zero, List.set_cons_succ]
          unfold wpTree
          go_wp2_with fail
          go_meet
          exact ⟨b6, t, rfl, rfl, rfl, hE, hst⟩
      obtain ⟨bb, bt, rfl, rfl, rfl, hPbb, hSbb⟩ := hcut
      obtain ⟨wb, rfl⟩ : ∃ x, x = wc := ⟨_, rfl⟩
      have hH1 := (hPbb.out).has (ba, al) (by simp)
      have hH2 := (hPbb.out).has (bb, bt) (by simp)
      have c27 := Lib.hid (sameStore_any bt al wb hH2.rd hH1.rd ((hSbb.out.trans hvv.out).trans hal.out.symm).sameS)
      obtain ⟨m0, m1, m2, m3, m4, m5⟩ := six_cells hH1.cells
      obtain ⟨j0, j1, j2, j3, j4, j5⟩ := six_cells hH2.cells
      clear hH1 hH2
      have hwd : IntKind.i64.wrap ((n : Int) - (k : Int)) = (n : Int) - (k : Int) := IntWalk.i64_in _ (by omega)
      go_wp2_with (first | (go_at_call 27; refine c27.out.mono ?_; rintro e wf ⟨rfl, hbf⟩; have hPf := Lib.hid (hPbb.out.later hbf)) | (go_at_call 17; refine (lives_any _).mono ?_; rintro e wL ⟨rfl, hbL⟩))
      go_ret
      exact ⟨rfl, (hPf.out.later hbL).lf.below⟩
    · have h0b : (ck != 0) = true := by simpa using h0
      replace h0 := Lib.hid h0
      go_wp2_with (go_at_call 17; refine (lives_any _).mono ?_; rintro e wL ⟨rfl, hbL⟩)
      go_ret
      exact ⟨rfl, (hXs.out.later hbL).below⟩
end Go.Proofs.Ytpgkhlpepckfgaa
