/-
  What straw.Do does: walked.
-/
import Derived.Test.YtpgkhlpepckfgaaXa17
import Derived.Test.YtpgkhlpepckfgaaXa22
import Derived.Test.YtpgkhlpepckfgaaXa28
import Derived.Test.YtpgkhlpepckfgaaXa29
import Derived.Test.YtpgkhlpepckfgaaXa31
import Derived.Deep.DeepCutAuto
set_option linter.all false
set_option linter.unusedVariables false
set_option linter.unusedSimpArgs false
namespace Go.Proofs.Ytpgkhlpepckfgaa
open Go.RowKit Go.Lib
open Go.Maps

/-- Where the lists of numbers and heaps lie: not below b. -/
def FreshS (b : Nat) (t : Store) : Prop := ∀ k, blk t.la = some k ∨ blk t.ga = some k ∨ blk t.ha = some k → b ≤ k
theorem fresh_none (b : Nat) : FreshS b noStore := fun k e => by rcases e with e | e | e <;> cases e
theorem Rows.fresh {B b : Nat} {x : Option Nat} {t : Store} {W : World} (h : Rows B x t W) (hb : b ≤ B) : FreshS b t := fun k e => by
  rcases e with e | e | e
  · have := (h.lastLt e).1; omega
  · have := (h.givenLt e).1; omega
  · have := (h.heapsLt e).1; omega
/-- What Do hands back: a store that is as told, and the error. -/
def DoOut (r : Int × Store) (w : World) (e : Ending) (w' : World) : Prop := ∃ t, e = .returned (.tuple #[storeVal t, .int .i64 r.1]) ∧ SameC t r.2 ∧ RdStore w' t ∧ Below w.heap.size w w' ∧ FreshS w.heap.size t
theorem rd_noStore (w : World) : RdStore w noStore := by
  refine ⟨⟨by simp [noStore], fun i x hx => by simp [noStore] at hx⟩, ⟨by simp [noStore], fun i x hx => by simp [noStore] at hx⟩, ⟨⟨by simp [noStore], fun i x hx => by simp [noStore] at hx⟩, fun x hx => by simp [noStore] at hx⟩, ⟨by simp [noStore], fun i x hx => by simp [noStore] at hx⟩, ⟨by simp [noStore], fun i x hx => by simp [noStore] at hx⟩⟩

theorem zeroWork (w : World) : (zeroValue 120).run Try.prog w = .ok (.agg #[.nilFunc, .nilFunc]) w := by kernel_rfl
/-- What the table holds for a kind. -/
def workK (k : Int) : Value := if 1 ≤ k ∧ k ≤ 8 then workV (k.toNat - 1) else .agg #[.nilFunc, .nilFunc]
theorem workM_get (k : Int) : (workM 8 (.int .i64 k)).getD (.agg #[.nilFunc, .nilFunc]) = workK k ∧ (workM 8 (.int .i64 k)).isSome = decide (1 ≤ k ∧ k ≤ 8) := by
  unfold workK workM
  by_cases h : 1 ≤ k ∧ k ≤ 8
  · have h' : 1 ≤ k ∧ k ≤ ((8 : Nat) : Int) := h
    simp only [if_pos h, if_pos h']; simp [h]
  · have h' : ¬ (1 ≤ k ∧ k ≤ ((8 : Nat) : Int)) := h
    simp only [if_neg h, if_neg h']; simp [h]
def IsFn (f : Value) : Prop := f = .nilFunc ∨ ∃ n, f = .func (.func n) #[] #[]
theorem workK_two (k : Int) : ∃ f0 f1, workK k = .agg #[f0, f1] ∧ IsFn f0 ∧ IsFn f1 := by
  unfold workK
  split
  · exact ⟨_, _, rfl, .inr ⟨_, rfl⟩, .inr ⟨_, rfl⟩⟩
  · exact ⟨_, _, rfl, .inl rfl, .inl rfl⟩
theorem IsFn.store {f x : Value} (h : IsFn f) (p : Addr) (W : World) (h1 : W.cell? p = some x) (h2 : W.frozen? p = false) : (store p f).run Try.prog W = .ok () (W.setCell p f) := by
  rcases h with rfl | ⟨n, rfl⟩ <;> simp [go_sem, h1, h2]

set_option maxHeartbeats 2000000 in
set_option maxRecDepth 100000 in
theorem do_any (A : Option Addr) (c : Nat) (pl : List Plot) (dry : Int) (s : Store) (a : Chore) (w : World) (h : RdPlots w A pl) (hs : RdStore w s) (hu : s.used.length ≤ 1000000) (hw : s.waste.length ≤ 1000000) (hh : ∀ x ∈ s.heaps, x.parts.length ≤ 1000000)
    (ho1 : a.name.size ≤ 140737488351232) (ho2 : a.other.size ≤ 140737488351232) (hkwf : (Lit.int .i64 a.kind).wf = true) :
    Calls Try.prog 35 #[.agg #[.slice A pl.length c, .int .i64 dry], storeVal s, choreVal a] w (DoOut (doP pl dry s a) w) := by
  have hmf := makeFunc_run
  obtain ⟨W0, hW0⟩ : ∃ W0, W0 = DXw w A c pl dry s a := ⟨_, rfl⟩
  have hX0 : DX w A c pl dry s a W0 := by rw [hW0]; exact DX.make
  unfold DXw at hW0
  have hck : Hid (Calls Try.prog 28 #[.agg #[.slice A pl.length c, .int .i64 dry], storeVal s] W0 fun e w' => e = .returned (.int .i64 (checkS pl dry s)) ∧ Below W0.heap.size W0 w') := checkStore_any A c pl dry s W0 (h.below hX0.below) (hs.below hX0.below) hu hw hh
  have hgd : checkS pl dry s = 0 → DoG pl dry s := fun e => good_do e hu hw hh
  obtain ⟨ck, hckE⟩ : ∃ ck, ck = checkS pl dry s := ⟨_, rfl⟩
  rw [← hckE] at hck hgd
  replace hX0 := Lib.hid hX0
  replace hckE := Lib.hid hckE
  by_cases h0 : ck = 0
  · have hG := hgd h0
    subst h0
    have h0b : ((0 : Int) != 0) = false := rfl
    obtain ⟨okB, hok⟩ : ∃ b, b = decide (1 ≤ a.kind ∧ a.kind ≤ 8) := ⟨_, rfl⟩
    replace hgd := Lib.hid hG
    clear hG
    go_enter_defers Try.func35, Try.ntmps35
    go_wp2_with fail
    rw [← hW0]
    go_at_call 28
    (with_reducible refine hck.out.mono ?_)
    rintro e w1 ⟨rfl, hb1⟩
    have hX1 := Lib.hid (hX0.out.later hb1)
    go_wp2_with fail
    have hk0 : Hid (∀ W, DX w A c pl dry s a W → W.cell? ⟨w.heap.size + 1 + 1, 0, none⟩ = some (.int .i64 a.kind)) := fun W hW => (nine_cells2 hW.chore).1
    have hlk : Hid (∀ (b : Nat) (W : World), MapIs W Try.prog 60 b 8 (workM 8) → (Instr.lookup 122 (.map (some b)) (.int .i64 a.kind) true).run Try.prog W = .ok (.tuple #[workK a.kind, .bool okB]) W) := fun b W hM => by
      have := hM.lookup (int_keyed Try.underlying60) Try.underlying122 (zeroWork W) (keyOf_int_mk Try.underlying60 hkwf) true
      rw [if_pos rfl, (workM_get a.kind).1, (workM_get a.kind).2, ← hok] at this
      exact this
    obtain ⟨f0, f1, hf01, hff0, hff1⟩ := workK_two a.kind
    have hst0 := fun (p : Addr) (W : World) (x : Value) => @IsFn.store f0 x hff0 p W
    have hst1 := fun (p : Addr) (W : World) (x : Value) => @IsFn.store f1 x hff1 p W
    replace hff0 := Lib.hid hff0
    replace hff1 := Lib.hid hff1
    rw [hf01] at hlk
    replace hok := Lib.hid hok
    replace hf01 := Lib.hid hf01
    go_cut [9, 10] from 21 to 27 (fun v9 v10 wx => ∃ g, v9 = ptr g ∧ v10 = .bool okB ∧ w.heap.size + 5 ≤ g ∧ Hid (DX w A c pl dry s a wx) ∧ Hid (wx.heap[g]? = some (.cells #[f0, f1] 120 (0, 0))))
    case first =>
      have hXd := Lib.hid (hX1.out.later (below_drewN_ w1 1))
      refine wp_region_tree (fun W => W.cell? ⟨w.heap.size + 1 + 1, 0, none⟩ = some (.int .i64 a.kind))
        (.pure 1 (.read 2 (.two 0 (.two 3 (.pure 4 (.pure 5 (.pure 6 (.one 7 (.one 8 (.pure 9 .done)))))) 7 (.one 3 (.pure 4 (.pure 5 (.pure 6 (.one 8 (.pure 9 .done))))))) 7 (.one 0 (.one 3 (.pure 4 (.pure 5 (.pure 6 (.one 8 (.pure 9 .done)))))))))) [8] (by kernel_rfl) (by kernel_rfl) (hk0.out _ hXd.out) ?_
      refine wpTree_pure (v := ?_) rfl (by rfl) ?_ (fun _ _ _ h => door_put (by decide) (by decide) h) ?_
      rotate_left
      focus (intro w'; (try simp only [List.getElem_toArray, List.getElem_cons_zero, List.getElem_cons_succ]); go_simp; try with_reducible rfl)
      simp only [List.getElem_toArray, List.getElem_cons_zero, List.getElem_cons_succ, Act.put, List.setIfInBounds_toArray, List.set_cons_zero, List.set_cons_succ]
      refine wpTree_take (v := ?_) rfl (by rfl) ?_ (fun _ _ _ h => door_put (by decide) (by decide) h) ?_
      rotate_left
      focus (intro w' hSw; (try simp only [List.getElem_toArray, List.getElem_cons_zero, List.getElem_cons_succ]); go_simp; try with_reducible rfl)
      simp only [List.getElem_toArray, List.getElem_cons_zero, List.getElem_cons_succ, Act.put, List.setIfInBounds_toArray, List.set_cons_zero, List.set_cons_succ]
      obtain ⟨wd, hwd⟩ : ∃ x, x = w1.drew := ⟨_, rfl⟩
      have hXe : Hid (DX w A c pl dry s a wd) := by rw [hwd]; exact hXd.out
      rw [← hwd]
      clear hXd hwd
      refine wpTree_two rfl (by rfl) rfl (by rfl) ?_ ?_
      · simp only [List.getElem_toArray, List.getElem_cons_zero, List.getElem_cons_succ]
        go_simp
        go_at_call 74
        (with_reducible refine (works_any wd).mono ?_)
        rintro e w2 ⟨rfl, hM2, hb2⟩
        have hX2 := Lib.hid (hXe.out.later hb2)
        refine ⟨fun _ => hk0.out _ hX2.out, ?_⟩
        replace hM2 := Lib.hid hM2
        clear hb2
        refine wpTree_two rfl (by rfl) rfl (by rfl) ?_ ?_
        · have hl := hlk.out _ _ hM2.out
          (try simp only [List.getElem_toArray, List.getElem_cons_zero, List.getElem_cons_succ])
          go_simp
          clear hl
          refine wpTree_pure (v := ?_) rfl (by rfl) ?_ (fun _ _ _ h => door_put (by decide) (by decide) h) ?_
          rotate_left
          focus (intro w'; (try simp only [List.getElem_toArray, List.getElem_cons_zero, List.getElem_cons_succ]); go_simp; try with_reducible rfl)
          simp only [List.getElem_toArray, List.getElem_cons_zero, List.getElem_cons_succ, Act.put, List.setIfInBounds_toArray, List.set_cons_zero, List.set_cons_succ]
          refine wpTree_pure (v := ?_) rfl (by rfl) ?_ (fun _ _ _ h => door_put (by decide) (by decide) h) ?_
          rotate_left
          focus (intro w'; (try simp only [List.getElem_toArray, List.getElem_cons_zero, List.getElem_cons_succ]); go_simp; try with_reducible rfl)
          simp only [List.getElem_toArray, List.getElem_cons_zero, List.getElem_cons_succ, Act.put, List.setIfInBounds_toArray, List.set_cons_zero, List.set_cons_succ]
          refine wpTree_pure (v := ?_) rfl (by rfl) ?_ (fun _ _ _ h => door_put (by decide) (by decide) h) ?_
          rotate_left
          focus (intro w'; (try simp only [List.getElem_toArray, List.getElem_cons_zero, List.getElem_cons_succ]); go_simp; try with_reducible rfl)
          simp only [List.getElem_toArray, List.getElem_cons_zero, List.getElem_cons_succ, Act.put, List.setIfInBounds_toArray, List.set_cons_zero, List.set_cons_succ]
          obtain ⟨g, hg⟩ : ∃ g, g = w2.heap.size := ⟨_, rfl⟩
          have hg5 : Hid (w.heap.size + 5 ≤ g) := by unfold Hid; rw [hg]; exact hX2.out.size
          refine wpTree_do rfl (by rfl) ?_
          (try simp only [List.getElem_toArray, List.getElem_cons_zero, List.getElem_cons_succ])
          go_simp
          rw [← hg]
          obtain ⟨wa, hwa⟩ : ∃ x, x = w2.alloc (.cells #[.nilFunc, .nilFunc] 120) := ⟨_, rfl⟩
          rw [← hwa]
          have hba : Below w2.heap.size w2 wa := by rw [hwa]; exact (Below.refl _ w2).alloc (Nat.le_refl _) _
          have bx : wa.heap[g]? = some (.cells #[.nilFunc, .nilFunc] 120 (0, 0)) := by rw [hwa, hg]; exact heap_new _ _ _ rfl
          have hXa := Lib.hid (hX2.out.later hba)
          have hMa : Hid (MapIs wa Try.prog 60 wd.heap.size 8 (workM 8)) := by rw [hwa]; exact hM2.out.alloc _
          refine ⟨fun _ => hk0.out _ hXa.out, ?_⟩
          clear hba hwa hg
          have z0 := cell_of_two bx
          have z1 : wa.cell? ⟨g, 1, none⟩ = some .nilFunc := by simp [World.cell?, bx]
          have y0 : wa.frozen? ⟨g, 0, none⟩ = false := frozen_of_row wa g 0 _ _ bx
          have y1 : wa.frozen? ⟨g, 1, none⟩ = false := frozen_of_row wa g 1 _ _ bx
          refine wpTree_do rfl (by rfl) ?_
          (try simp only [List.getElem_toArray, List.getElem_cons_zero, List.getElem_cons_succ])
          go_simp
          obtain ⟨wf, hwf⟩ : ∃ x, x = (wa.setCell ⟨g, 0, none⟩ f0).setCell ⟨g, 1, none⟩ f1 := ⟨_, rfl⟩
          rw [← hwf]
          have hf1 : wf.heap[g]? = some (.cells #[f0, f1] 120 (0, 0)) := by rw [hwf]; exact set_cells (o := 1) (set_cells (o := 0) bx f0) f1
          have hf2 : Hid (DX w A c pl dry s a wf) := by rw [hwf]; exact (hXa.out.set hg5.out 0 f0).set hg5.out 1 f1
          clear z0 z1 y0 y1 hwf
          refine wpTree_pure (v := ?_) rfl (by rfl) ?_ (fun _ _ _ h => door_put (by decide) (by decide) h) ?_
          rotate_left
          focus (intro w'; (try simp only [List.getElem_toArray, List.getElem_cons_zero, List.getElem_cons_succ]); go_simp; try with_reducible rfl)
          simp only [List.getElem_toArray, List.getElem_cons_zero, List.getElem_cons_succ, Act.put, List.setIfInBounds_toArray, List.set_cons_zero, List.set_cons_succ]
          unfold wpTree
          go_wp2_with fail
          go_meet
          exact ⟨g, rfl, rfl, hg5.out, hf2, hf1⟩
        · skip
          obtain ⟨g, hg⟩ : ∃ g, g = w2.heap.size := ⟨_, rfl⟩
          have hg5 : Hid (w.heap.size + 5 ≤ g) := by unfold Hid; rw [hg]; exact hX2.out.size
          (try simp only [List.getElem_toArray, List.getElem_cons_zero, List.getElem_cons_succ])
          go_simp
          rw [← hg]
          obtain ⟨wa, hwa⟩ : ∃ x, x = w2.alloc (.cells #[.nilFunc, .nilFunc] 120) := ⟨_, rfl⟩
          rw [← hwa]
          have hba : Below w2.heap.size w2 wa := by rw [hwa]; exact (Below.refl _ w2).alloc (Nat.le_refl _) _
          have bx : wa.heap[g]? = some (.cells #[.nilFunc, .nilFunc] 120 (0, 0)) := by rw [hwa, hg]; exact heap_new _ _ _ rfl
          have hXa := Lib.hid (hX2.out.later hba)
          have hMa : Hid (MapIs wa Try.prog 60 wd.heap.size 8 (workM 8)) := by rw [hwa]; exact hM2.out.alloc _
          refine ⟨fun _ => hk0.out _ hXa.out, ?_⟩
          clear hba hwa hg
          have hl := hlk.out _ _ hMa.out
          refine wpTree_do rfl (by rfl) ?_
          (try simp only [List.getElem_toArray, List.getElem_cons_zero, List.getElem_cons_succ])
          go_simp
          clear hl
          refine wpTree_pure (v := ?_) rfl (by rfl) ?_ (fun _ _ _ h => door_put (by decide) (by decide) h) ?_
          rotate_left
          focus (intro w'; (try simp only [List.getElem_toArray, List.getElem_cons_zero, List.getElem_cons_succ]); go_simp; try with_reducible rfl)
          simp only [List.getElem_toArray, List.getElem_cons_zero, List.getElem_cons_succ, Act.put, List.setIfInBounds_toArray, List.set_cons_zero, List.set_cons_succ]
          refine wpTree_pure (v := ?_) rfl (by rfl) ?_ (fun _ _ _ h => door_put (by decide) (by decide) h) ?_
          rotate_left
          focus (intro w'; (try simp only [List.getElem_toArray, List.getElem_cons_zero, List.getElem_cons_succ]); go_simp; try with_reducible rfl)
          simp only [List.getElem_toArray, List.getElem_cons_zero, List.getElem_cons_succ, Act.put, List.setIfInBounds_toArray, List.set_cons_zero, List.set_cons_succ]
          refine wpTree_pure (v := ?_) rfl (by rfl) ?_ (fun _ _ _ h => door_put (by decide) (by decide) h) ?_
          rotate_left
          focus (intro w'; (try simp only [List.getElem_toArray, List.getElem_cons_zero, List.getElem_cons_succ]); go_simp; try with_reducible rfl)
          simp only [List.getElem_toArray, List.getElem_cons_zero, List.getElem_cons_succ, Act.put, List.setIfInBounds_toArray, List.set_cons_zero, List.set_cons_succ]
          have z0 := cell_of_two bx
          have z1 : wa.cell? ⟨g, 1, none⟩ = some .nilFunc := by simp [World.cell?, bx]
          have y0 : wa.frozen? ⟨g, 0, none⟩ = false := frozen_of_row wa g 0 _ _ bx
          have y1 : wa.frozen? ⟨g, 1, none⟩ = false := frozen_of_row wa g 1 _ _ bx
          refine wpTree_do rfl (by rfl) ?_
          (try simp only [List.getElem_toArray, List.getElem_cons_zero, List.getElem_cons_succ])
          go_simp
          obtain ⟨wf, hwf⟩ : ∃ x, x = (wa.setCell ⟨g, 0, none⟩ f0).setCell ⟨g, 1, none⟩ f1 := ⟨_, rfl⟩
          rw [← hwf]
          have hf1 : wf.heap[g]? = some (.cells #[f0, f1] 120 (0, 0)) := by rw [hwf]; exact set_cells (o := 1) (set_cells (o := 0) bx f0) f1
          have hf2 : Hid (DX w A c pl dry s a wf) := by rw [hwf]; exact (hXa.out.set hg5.out 0 f0).set hg5.out 1 f1
          clear z0 z1 y0 y1 hwf
          refine wpTree_pure (v := ?_) rfl (by rfl) ?_ (fun _ _ _ h => door_put (by decide) (by decide) h) ?_
          rotate_left
          focus (intro w'; (try simp only [List.getElem_toArray, List.getElem_cons_zero, List.getElem_cons_succ]); go_simp; try with_reducible rfl)
          simp only [List.getElem_toArray, List.getElem_cons_zero, List.getElem_cons_succ, Act.put, List.setIfInBounds_toArray, List.set_cons_zero, List.set_cons_succ]
          unfold wpTree
          go_wp2_with fail
          go_meet
          exact ⟨g, rfl, rfl, hg5.out, hf2, hf1⟩
      · (try simp only [List.getElem_toArray, List.getElem_cons_zero, List.getElem_cons_succ])
        go_simp
        obtain ⟨g, hg⟩ : ∃ g, g = wd.heap.size := ⟨_, rfl⟩
        have hg5 : Hid (w.heap.size + 5 ≤ g) := by unfold Hid; rw [hg]; exact hXe.out.size
        rw [← hg]
        obtain ⟨wb, hwb⟩ : ∃ x, x = wd.alloc (.cells #[.nilFunc, .nilFunc] 120) := ⟨_, rfl⟩
        rw [← hwb]
        have hba : Below wd.heap.size wd wb := by rw [hwb]; exact (Below.refl _ wd).alloc (Nat.le_refl _) _
        have bb : wb.heap[g]? = some (.cells #[.nilFunc, .nilFunc] 120 (0, 0)) := by rw [hwb, hg]; exact heap_new _ _ _ rfl
        have hXb := Lib.hid (hXe.out.later hba)
        refine ⟨fun _ => hk0.out _ hXb.out, ?_⟩
        clear hba hwb hg
        · refine wpTree_do rfl (by rfl) ?_
          (try simp only [List.getElem_toArray, List.getElem_cons_zero, List.getElem_cons_succ])
          go_simp
          go_at_call 74
          (with_reducible refine (works_any wb).mono ?_)
          rintro e wa ⟨rfl, hMa, hb2⟩
          have hXa := Lib.hid (hXb.out.later hb2)
          have bx := (hb2.block g (Array.getElem?_eq_some_iff.1 bb).1).trans bb
          refine ⟨fun _ => hk0.out _ hXa.out, ?_⟩
          replace hMa := Lib.hid hMa
          clear hb2 bb
          have hl := hlk.out _ _ hMa.out
          refine wpTree_do rfl (by rfl) ?_
          (try simp only [List.getElem_toArray, List.getElem_cons_zero, List.getElem_cons_succ])
          go_simp
          clear hl
          refine wpTree_pure (v := ?_) rfl (by rfl) ?_ (fun _ _ _ h => door_put (by decide) (by decide) h) ?_
          rotate_left
          focus (intro w'; (try simp only [List.getElem_toArray, List.getElem_cons_zero, List.getElem_cons_succ]); go_simp; try with_reducible rfl)
          simp only [List.getElem_toArray, List.getElem_cons_zero, List.getElem_cons_succ, Act.put, List.setIfInBounds_toArray, List.set_cons_zero, List.set_cons_succ]
          refine wpTree_pure (v := ?_) rfl (by rfl) ?_ (fun _ _ _ h => door_put (by decide) (by decide) h) ?_
          rotate_left
          focus (intro w'; (try simp only [List.getElem_toArray, List.getElem_cons_zero, List.getElem_cons_succ]); go_simp; try with_reducible rfl)
          simp only [List.getElem_toArray, List.getElem_cons_zero, List.getElem_cons_succ, Act.put, List.setIfInBounds_toArray, List.set_cons_zero, List.set_cons_succ]
          refine wpTree_pure (v := ?_) rfl (by rfl) ?_ (fun _ _ _ h => door_put (by decide) (by decide) h) ?_
          rotate_left
          focus (intro w'; (try simp only [List.getElem_toArray, List.getElem_cons_zero, List.getElem_cons_succ]); go_simp; try with_reducible rfl)
          simp only [List.getElem_toArray, List.getElem_cons_zero, List.getElem_cons_succ, Act.put, List.setIfInBounds_toArray, List.set_cons_zero, List.set_cons_succ]
          have z0 := cell_of_two bx
          have z1 : wa.cell? ⟨g, 1, none⟩ = some .nilFunc := by simp [World.cell?, bx]
          have y0 : wa.frozen? ⟨g, 0, none⟩ = false := frozen_of_row wa g 0 _ _ bx
          have y1 : wa.frozen? ⟨g, 1, none⟩ = false := frozen_of_row wa g 1 _ _ bx
          refine wpTree_do rfl (by rfl) ?_
          (try simp only [List.getElem_toArray, List.getElem_cons_zero, List.getElem_cons_succ])
          go_simp
          obtain ⟨wf, hwf⟩ : ∃ x, x = (wa.setCell ⟨g, 0, none⟩ f0).setCell ⟨g, 1, none⟩ f1 := ⟨_, rfl⟩
          rw [← hwf]
          have hf1 : wf.heap[g]? = some (.cells #[f0, f1] 120 (0, 0)) := by rw [hwf]; exact set_cells (o := 1) (set_cells (o := 0) bx f0) f1
          have hf2 : Hid (DX w A c pl dry s a wf) := by rw [hwf]; exact (hXa.out.set hg5.out 0 f0).set hg5.out 1 f1
          clear z0 z1 y0 y1 hwf
          refine wpTree_pure (v := ?_) rfl (by rfl) ?_ (fun _ _ _ h => door_put (by decide) (by decide) h) ?_
          rotate_left
          focus (intro w'; (try simp only [List.getElem_toArray, List.getElem_cons_zero, List.getElem_cons_succ]); go_simp; try with_reducible rfl)
          simp only [List.getElem_toArray, List.getElem_cons_zero, List.getElem_cons_succ, Act.put, List.setIfInBounds_toArray, List.set_cons_zero, List.set_cons_succ]
          unfold wpTree
          go_wp2_with fail
          go_meet
          exact ⟨g, rfl, rfl, hg5.out, hf2, hf1⟩
    case rest =>
      obtain ⟨g, rfl, rfl, hg5, hX2, hgw⟩ := hcut
      have y0 : wc.cell? ⟨g, 0, none⟩ = some f0 := by simp [World.cell?, hgw.out]
      have y1 : wc.cell? ⟨g, 1, none⟩ = some f1 := by simp [World.cell?, hgw.out]
      obtain ⟨c0, c1, c2, c3, c4, c5, c6, c7, c8⟩ := nine_cells2 hX2.out.chore
      clear hst0 hst1 hlk hk0 hck
      by_cases hkk : 1 ≤ a.kind ∧ a.kind ≤ 8
      · have hok1 : okB = true := by rw [hok.out]; exact decide_eq_true hkk
        subst hok1
        obtain ⟨m, hm⟩ : ∃ m, m = a.kind.toNat - 1 := ⟨_, rfl⟩
        have hf : f0 = .func (.func (91 + 2 * m)) #[] #[] ∧ f1 = .func (.func (92 + 2 * m)) #[] #[] := by
          have := hf01.out
          unfold workK workV at this
          rw [if_pos hkk, ← hm] at this
          simp only [Value.agg.injEq] at this
          have e := congrArg Array.toList this
          simp only [List.cons.injEq, and_true] at e
          exact ⟨e.1.symm, e.2.symm⟩
        obtain ⟨rfl, rfl⟩ := hf
        have hcn : Hid (∀ W, Calls Try.prog (92 + 2 * m) #[choreVal a] W (NamesOut (rawName a) W)) := fun W => hm ▸ names_calls a hkk W
        have hent := work_enters hkk
        rw [← hm] at hent
        have hgn := hgw.out
        obtain ⟨n1, hn1⟩ : ∃ n1, n1 = 92 + 2 * m := ⟨_, rfl⟩
        obtain ⟨n0, hn0⟩ : ∃ n0, n0 = 91 + 2 * m := ⟨_, rfl⟩
        rw [← hn1] at hcn y1 hent hgn
        rw [← hn0] at y0 hent hgn
        clear hgw
        replace hgn := Lib.hid hgn
        obtain ⟨en0, en1⟩ := hent
        unfold Enters at en0 en1
        replace hn0 := Lib.hid hn0
        replace hn1 := Lib.hid hn1
        replace hm := Lib.hid hm
        go_wp2_with (go_at_call 75; (with_reducible refine (demand_on _ _).mono ?_); rintro e w3 ⟨rfl, rfl⟩)
        obtain ⟨ro, hro⟩ : ∃ r, r = rawName a := ⟨_, rfl⟩
        rw [← hro] at hcn
        (with_reducible refine (hcn.out _).mono ?_)
        rintro e w3 ⟨rfl, hb3⟩
        have hX3 := Lib.hid (hX2.out.later hb3)
        have hgl := (Array.getElem?_eq_some_iff.1 hgn.out).1
        have hgw3 : Hid (w3.heap[g]? = some (.cells #[.func (.func n0) #[] #[], .func (.func n1) #[] #[]] 120 (0, 0))) := (hb3.block g hgl).trans hgn.out
        clear hcn hb3 c0 c1 c2 c3 c4 c5 c6 c7 c8 y0 y1
        replace hro := Lib.hid hro
        go_upto_region 8 with fail
        obtain ⟨w4, hw4⟩ : ∃ x, x = w3.alloc (.cells (choreCells ro) 64) := ⟨_, rfl⟩
        have hb4 : Below w3.heap.size w3 w4 := by rw [hw4]; exact (Below.refl _ w3).alloc (Nat.le_refl _) _
        have hX4 := Lib.hid (hX3.out.later hb4)
        obtain ⟨o, ho⟩ : ∃ o, o = w3.heap.size := ⟨_, rfl⟩
        have bo : w4.heap[o]? = some (.cells (choreCells ro) 64 (0, 0)) := by rw [hw4, ho]; exact heap_new _ _ _ rfl
        have ho5 : Hid (w.heap.size + 5 ≤ o) := by unfold Hid; rw [ho]; exact hX3.out.size
        have hgo : Hid (g < o) := by unfold Hid; rw [ho]; exact (Array.getElem?_eq_some_iff.1 hgw3.out).1
        have hgw4 : Hid (w4.heap[g]? = some (.cells #[.func (.func n0) #[] #[], .func (.func n1) #[] #[]] 120 (0, 0))) := (hb4.block g (Array.getElem?_eq_some_iff.1 hgw3.out).1).trans hgw3.out
        rw [← hw4, ← ho]
        clear hb4
        replace hw4 := Lib.hid hw4
        replace ho := Lib.hid ho
        obtain ⟨c0, c1, c2, c3, c4, c5, c6, c7, c8⟩ := nine_cells2 hX4.out.chore
        have z0 := (nine_cells2 bo).1
        have f0 : w4.frozen? ⟨o, 0, none⟩ = false := frozen_of_row w4 _ 0 _ _ bo
        have hne : o ≠ w.heap.size + 1 + 1 := by have := ho5.out; omega
        go_upto_region 9 with fail
        obtain ⟨w5, hw5⟩ : ∃ x, x = w4.setCell ⟨o, 0, none⟩ (.int .i64 a.kind) := ⟨_, rfl⟩
        rw [← hw5]
        obtain ⟨na, hna⟩ : ∃ x, x = namedP a := ⟨_, rfl⟩
        have bn : Hid (w5.heap[o]? = some (.cells (choreCells na) 64 (0, 0))) := by
          unfold Hid
          rw [hw5, hna, ← raw_kind, ← hro.out]
          exact set_cells bo _
        have hX5 : Hid (DX w A c pl dry s a w5) := by rw [hw5]; exact hX4.out.set ho5.out 0 _
        have hgw5 : Hid (w5.heap[g]? = some (.cells #[.func (.func n0) #[] #[], .func (.func n1) #[] #[]] 120 (0, 0))) := by rw [hw5]; exact (Below.heap_setCell _ _ _ _ (by have := hgo.out; show g ≠ o; omega)).trans hgw4.out
        clear c0 c1 c2 c3 c4 c5 c6 c7 c8 z0 f0
        replace hw5 := Lib.hid hw5
        replace hna := Lib.hid hna
        replace bo := Lib.hid bo
        obtain ⟨c0, c1, c2, c3, c4, c5, c6, c7, c8⟩ := nine_cells2 hX5.out.chore
        obtain ⟨z0, z1, z2, z3, z4, z5, z6, z7, z8⟩ := nine_cells2 bn.out
        have hq := eql_chore na a
        obtain ⟨sc, hsc⟩ : ∃ sc, sc = sameChore na a := ⟨_, rfl⟩
        rw [← hsc] at hq
        replace hsc := Lib.hid hsc
        cases sc with
        | false =>
          have hr : Hid (doP pl dry s a = (1, noStore)) := by unfold Hid doP; rw [← hckE.out, if_neg (by decide), if_neg (by simpa using hkk), ← hna.out, ← hsc.out, if_pos rfl]
          go_wp2_with (go_at_call 75; (with_reducible refine (demand_no _ _).mono ?_); rintro e w6 ⟨rfl, rfl⟩)
          refine door_wrong rfl rfl hX5.out fun w' hb' => ?_
          rw [hr.out]
          exact ⟨noStore, rfl, SameC.refl _, rd_noStore _, hb', fresh_none _⟩
        | true =>
          go_wp2_with (go_at_call 75; (with_reducible refine (demand_on _ _).mono ?_); rintro e w6 ⟨rfl, rfl⟩)
          clear hq z0 z1 z2 z3 z4 z5 z6 z7 z8 c0 c1 c2 c3 c4 c5 c6 c7 c8
          obtain ⟨wq, hwq⟩ : ∃ x, x = w5.drew := ⟨_, rfl⟩
          have hXq : Hid (DX w A c pl dry s a wq) := by rw [hwq]; exact hX5.out.later (below_drewN_ w5 1)
          have hgwq : Hid (wq.heap[g]? = some (.cells #[.func (.func n0) #[] #[], .func (.func n1) #[] #[]] 120 (0, 0))) := by rw [hwq]; exact hgw5.out
          have hS := Lib.hid (fun W (h : DX w A c pl dry s a W) => And.intro (cells2 h.farm) (cells6 h.store))
          have hc76 : Hid (Calls Try.prog 76 #[storeVal s] wq (TwinOut s wq)) := twin_any s wq (hs.below hXq.out.below) hgd.out.mildS
          refine wp_region_tree (fun W => DX w A c pl dry s a W) (.read 0 (.read 1 (.one 2 (.pure 3 (.one 4 (.pure 5 .done)))))) [] (by kernel_rfl) (by kernel_rfl) (by rw [← hwq]; exact hXq.out) ?_
          rw [← hwq]
          replace hwq := Lib.hid hwq
          refine wpTree_take (v := ?_) rfl (by rfl) ?_ (fun _ _ _ h => door_put (by decide) (by decide) h) ?_
          rotate_left
          focus (intro w' hSw; obtain ⟨⟨k0, k1⟩, j0, j1, j2, j3, j4, j5⟩ := hS.out _ hSw; clear hSw; (try simp only [List.getElem_toArray, List.getElem_cons_zero, List.getElem_cons_succ]); go_simp; try with_reducible rfl)
          simp only [List.getElem_toArray, List.getElem_cons_zero, List.getElem_cons_succ, Act.put, List.setIfInBounds_toArray, List.set_cons_zero, List.set_cons_succ]
          refine wpTree_take (v := ?_) rfl (by rfl) ?_ (fun _ _ _ h => door_put (by decide) (by decide) h) ?_
          rotate_left
          focus (intro w' hSw; obtain ⟨⟨k0, k1⟩, j0, j1, j2, j3, j4, j5⟩ := hS.out _ hSw; clear hSw; (try simp only [List.getElem_toArray, List.getElem_cons_zero, List.getElem_cons_succ]); go_simp; try with_reducible rfl)
          simp only [List.getElem_toArray, List.getElem_cons_zero, List.getElem_cons_succ, Act.put, List.setIfInBounds_toArray, List.set_cons_zero, List.set_cons_succ]
          refine wpTree_do rfl (by rfl) ?_
          (try simp only [List.getElem_toArray, List.getElem_cons_zero, List.getElem_cons_succ])
          go_simp
          go_at_call 76
          (with_reducible refine hc76.out.mono ?_)
          rintro e w6 ⟨t, rfl, hst, hrt, hb6⟩
          have hX6 := Lib.hid (hXq.out.later hb6)
          have hgw6 : Hid (w6.heap[g]? = some (.cells #[.func (.func n0) #[] #[], .func (.func n1) #[] #[]] 120 (0, 0))) := (hb6.block g (Array.getElem?_eq_some_iff.1 hgwq.out).1).trans hgwq.out
          refine ⟨fun _ => hX6.out, ?_⟩
          replace hrt := Lib.hid hrt
          replace hb6 := Lib.hid hb6
          replace hst := Lib.hid hst
          refine wpTree_pure (v := ?_) rfl (by rfl) ?_ (fun _ _ _ h => door_put (by decide) (by decide) h) ?_
          rotate_left
          focus (intro w'; (try simp only [List.getElem_toArray, List.getElem_cons_zero, List.getElem_cons_succ]); go_simp; try with_reducible rfl)
          simp only [List.getElem_toArray, List.getElem_cons_zero, List.getElem_cons_succ, Act.put, List.setIfInBounds_toArray, List.set_cons_zero, List.set_cons_succ]
          refine wpTree_do rfl (by rfl) ?_
          (try simp only [List.getElem_toArray, List.getElem_cons_zero, List.getElem_cons_succ])
          go_simp
          obtain ⟨wb, hwb⟩ : ∃ x, x = w6.alloc (.cells (shedCells A pl.length c dry t) 128) := ⟨_, rfl⟩
          obtain ⟨b, hb⟩ : ∃ b, b = w6.heap.size := ⟨_, rfl⟩
          rw [← hwb, ← hb]
          have hbb : Below w6.heap.size w6 wb := by rw [hwb]; exact (Below.refl _ w6).alloc (Nat.le_refl _) _
          have hbx : wb.heap[b]? = some (.cells (shedCells A pl.length c dry t) 128 (0, 0)) := by rw [hwb, hb]; exact heap_new _ _ _ rfl
          have hXb := Lib.hid (hX6.out.later hbb)
          have hgwb : Hid (wb.heap[g]? = some (.cells #[.func (.func n0) #[] #[], .func (.func n1) #[] #[]] 120 (0, 0))) := (hbb.block g (Array.getElem?_eq_some_iff.1 hgw6.out).1).trans hgw6.out
          have hbl := (Array.getElem?_eq_some_iff.1 hbx).1
          have hqb : wq.heap.size ≤ b := by rw [hb]; exact hb6.out.size
          have hOwn : Own wq.heap.size b A pl.length c dry t wb := ⟨hrt.out.boxed hbb (by omega) hbl, hbx, hqb⟩
          have hcw : Hid (Calls Try.prog n0 #[ptr b, choreVal a] wb (ShedOut wq.heap.size b A pl.length c dry (workP pl dry t a) wb)) := by
            have := work_calls wq.heap.size b A pl c dry t a wb hOwn (h.below hXb.out.below) (hst.out.good hgd) ho1 ho2 hkk
            rw [← hm.out, ← hn0.out] at this
            exact this
          have hq5 : Hid (w.heap.size + 5 ≤ wq.heap.size) := hXq.out.size
          refine ⟨fun _ => hXb.out, ?_⟩
          replace hwb := Lib.hid hwb
          replace hb := Lib.hid hb
          replace hqb := Lib.hid hqb
          refine wpTree_pure (v := ?_) rfl (by rfl) ?_ (fun _ _ _ h => door_put (by decide) (by decide) h) ?_
          rotate_left
          focus (intro w'; (try simp only [List.getElem_toArray, List.getElem_cons_zero, List.getElem_cons_succ]); go_simp; try with_reducible rfl)
          simp only [List.getElem_toArray, List.getElem_cons_zero, List.getElem_cons_succ, Act.put, List.setIfInBounds_toArray, List.set_cons_zero, List.set_cons_succ]
          unfold wpTree
          clear hX6 hgw6 hbx hbb hOwn hgwq hrt hb6 hc76 hX5 hgw5 hX4 hgw4 hX3 hgw3 hX2 hX1 hX0 hS
          have y0 := (cells2 hgwb.out).1
          obtain ⟨c0, c1, c2, c3, c4, c5, c6, c7, c8⟩ := nine_cells2 hXb.out.chore
          have hw2 := Lib.hid (hst.out.workP pl dry a)
          go_wp2_with fail
          (with_reducible refine hcw.out.mono ?_)
          rintro e w8 ⟨hb8, (⟨hne8, rfl⟩ | ⟨he8, rfl, t', hst', h8⟩)⟩
          · have hX8 : DX w A c pl dry s a w8 := hXb.out.kept (hXb.out.below.trans (hb8.mono (by have := hq5.out; omega))) hb8.size (fun k hk => hb8.block k (by have := hq5.out; omega))
            have hr : doP pl dry s a = ((workP pl dry t a).1, noStore) := by
              unfold doP
              rw [← hckE.out, if_neg (by decide), if_neg (by simpa using hkk), ← hna.out, ← hsc.out, if_neg (by decide), hw2.out.1, if_pos (hw2.out.1 ▸ hne8)]
            refine door_wrong rfl rfl hX8 fun w' hb' => ?_
            rw [hr]
            exact ⟨noStore, rfl, SameC.refl _, rd_noStore _, hb', fresh_none _⟩
          · have hX8 := Lib.hid (hXb.out.kept (hXb.out.below.trans (hb8.mono (by have := hq5.out; omega))) hb8.size (fun k hk => hb8.block k (by have := hq5.out; omega)))
            have hr : Hid (doP pl dry s a = (0, (workP pl dry s a).2)) := by
              unfold Hid doP
              rw [← hckE.out, if_neg (by decide), if_neg (by simpa using hkk), ← hna.out, ← hsc.out, if_neg (by decide), if_neg (by simpa using hw2.out.1.trans he8)]
            obtain ⟨_, _, k2, k3, k4, k5, k6, k7⟩ := eight_cells h8.box
            obtain ⟨d0, d1, d2, d3, d4, d5⟩ := cells6 hX8.out.after
            have e0 := cell_of_one hX8.out.err
            have hfz : ∀ j, w8.frozen? ⟨w.heap.size + 1 + 1 + 1, j, none⟩ = false := fun j => frozen_of_row w8 _ j _ _ hX8.out.after
            have f0 := hfz 0
            have f1 := hfz 1
            have f2 := hfz 2
            have f3 := hfz 3
            have f4 := hfz 4
            have f5 := hfz 5
            have g0 := free_of_one hX8.out.err
            have hbn : b ≠ w.heap.size + 1 + 1 + 1 := by have := hqb.out; have := hq5.out; omega
            clear hfz c0 c1 c2 c3 c4 c5 c6 c7 c8 y0
            replace h8 := Lib.hid h8
            replace hst' := Lib.hid hst'
            replace hb8 := Lib.hid hb8
            replace he8 := Lib.hid he8
            go_wp2_with fail
            obtain ⟨q6, q7⟩ := put_cells (.int .i64 t'.year) (.slice t'.la t'.last.length t'.lc) (.slice t'.ga t'.given.length t'.gc) (.slice t'.ha t'.heaps.length t'.hc) (.slice t'.ua t'.used.length t'.uc) (.slice t'.wa t'.waste.length t'.wc) (.int .i64 0) hX8.out.after hX8.out.err (by omega)
            refine door_right rfl rfl q6 q7 ⟨t', ?_, ?_, ?_, ?_, ?_⟩
            · rw [hr.out]
            · rw [hr.out]; exact hst'.out.trans hw2.out.2.symm
            · have := hq5.out
              exact h8.out.rows.put (c1 := (none, 0, 0)) (c2 := (none, 0, 0)) (c3 := (none, 0, 0)) (c4 := (none, 0, 0)) (c5 := (none, 0, 0)) (by omega) (by omega) hX8.out.after hX8.out.err _ _ _ _ _ _ _
            · exact put_below _ _ _ _ _ _ _ hX8.out.below (by omega) (by omega)
            · have := hq5.out
              exact h8.out.rows.fresh (by omega)
      · have hok1 : okB = false := by rw [hok.out]; exact decide_eq_false hkk
        subst hok1
        have hr : Hid (doP pl dry s a = (1, noStore)) := by unfold Hid doP; rw [← hckE.out, if_neg (by decide), if_pos hkk]
        go_wp2_with (go_at_call 75; (with_reducible refine (demand_no _ _).mono ?_); rintro e w3 ⟨rfl, rfl⟩)
        refine door_wrong rfl rfl hX2.out fun w' hb' => ?_
        rw [hr.out]
        exact ⟨noStore, rfl, SameC.refl _, rd_noStore _, hb', fresh_none _⟩
  · have hr : Hid (doP pl dry s a = (ck, noStore)) := by unfold Hid doP; rw [← hckE.out, if_pos h0]
    have h0b : (ck != 0) = true := by simpa using h0
    go_enter_defers Try.func35, Try.ntmps35
    go_wp2_with fail
    rw [← hW0]
    go_at_call 28
    (with_reducible refine hck.out.mono ?_)
    rintro e w1 ⟨rfl, hb1⟩
    have hX1 := hX0.out.later hb1
    obtain ⟨d0, d1, d2, d3, d4, d5⟩ := cells6 hX1.after
    have e0 := cell_of_one hX1.err
    have hfz : ∀ j, w1.frozen? ⟨w.heap.size + 1 + 1 + 1, j, none⟩ = false := fun j => frozen_of_row w1 _ j _ _ hX1.after
    have f0 := hfz 0
    have f1 := hfz 1
    have f2 := hfz 2
    have f3 := hfz 3
    have f4 := hfz 4
    have f5 := hfz 5
    have g0 := free_of_one hX1.err
    clear hfz
    replace hX1 := Lib.hid hX1
    go_wp2_with fail
    obtain ⟨q6, q7⟩ := wrong_cells ck hX1.out.after hX1.out.err (by omega)
    have := hX1.out.size
    refine ⟨_, results_do rfl rfl q6 q7, noStore, ?_, ?_, rd_noStore _, wrong_below ck hX1.out.below (by omega) (by omega), fresh_none _⟩
    · rw [hr.out]; rfl
    · rw [hr.out]; exact SameC.refl _
end Go.Proofs.Ytpgkhlpepckfgaa
