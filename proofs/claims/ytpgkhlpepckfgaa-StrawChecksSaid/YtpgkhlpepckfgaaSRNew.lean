/-
  The first store of a farm, as the specification has it: walked.
-/
import Derived.Test.YtpgkhlpepckfgaaSNewB
import Derived.Test.YtpgkhlpepckfgaaRC
namespace Go.Proofs.Ytpgkhlpepckfgaa
open Go.RowKit Go.Lib

abbrev zero6 : Array Value := #[.int .i64 0, .slice none 0 0, .slice none 0 0, .slice none 0 0, .slice none 0 0, .slice none 0 0]
/-- The store that is made, field by field: two rows that lie apart. -/
structure NR (w : World) (A : Option Addr) (n c : Nat) (dry : Int) (b k1 k2 : Nat) (v1 v2 : Value) (wr : World) : Prop where
  below : Below w.heap.size w wr
  farm : wr.heap[w.heap.size]? = some (.cells #[.slice A n c, .int .i64 dry] 24 (0, 0))
  res : wr.heap[w.heap.size + 1]? = some (.cells zero6 43 (0, 0))
  var : wr.heap[b]? = some (.cells #[.int .i64 0, v1, v2, .slice none 0 0, .slice none 0 0, .slice none 0 0] 43 (0, 0))
  r1 : SlRow wr (b + 1) v1 (List.replicate k1 (-1))
  r2 : SlRow wr (b + 1) v2 (List.replicate k2 0)
  apart : ∀ j, v1.ownBlock = some j → v2.ownBlock ≠ some j
  hb : w.heap.size + 2 ≤ b
section
variable {w : World} {A : Option Addr} {n c : Nat} {dry : Int} {b k1 k2 : Nat} {v1 v2 : Value} {wr : World}
theorem NR.lt (h : NR w A n c dry b k1 k2 v1 v2 wr) : b < wr.heap.size := (Array.getElem?_eq_some_iff.1 h.var).1
theorem NR.start {wx : World} (hB : Below w.heap.size w wx) (hf : wx.heap[w.heap.size]? = some (.cells #[.slice A n c, .int .i64 dry] 24 (0, 0))) (hr : wx.heap[w.heap.size + 1]? = some (.cells zero6 43 (0, 0))) (hz : w.heap.size + 2 ≤ wx.heap.size) :
    NR w A n c dry wx.heap.size 0 0 (.slice none 0 0) (.slice none 0 0) (wx.alloc (.cells zero6 43)) :=
  ⟨hB.alloc hB.size _, heap_old _ _ _ _ hf, heap_old _ _ _ _ hr, heap_new _ _ _ rfl, World.ownsRow_nil _ _ _ _, World.ownsRow_nil _ _ _ _, fun j hj => by simp [Value.ownBlock] at hj, hz⟩
/-- The first row is one longer. -/
theorem NR.push1 (h : NR w A n c dry b k1 k2 v1 v2 wr) {v1' : Value} {w1 : World} (hown : w1.ownsRow (b + 1) 3 1 v1' (k1 + 1) ((List.replicate k1 (-1)).map (Value.int .i64) ++ [.int .i64 (-1)])) (hgrow : (wr.alloc (.cells #[.int .i64 (-1)] 3)).grownBy w1 v1.ownBlock)
    (hnear : ∀ j, v1'.ownBlock = some j → v1.ownBlock = some j ∨ (wr.alloc (.cells #[.int .i64 (-1)] 3)).heap.size ≤ j) :
    NR w A n c dry b (k1 + 1) k2 v1' v2 (w1.setCell ⟨b, 1, none⟩ v1') ∧ w1.heap[b]? = wr.heap[b]? ∧ b < w1.heap.size := by
  have hb := h.hb
  have hlt := h.lt
  have hs := hgrow.size
  simp only [World.size_alloc] at hs hnear
  have hv1 : ∀ j, v1.ownBlock = some j → b + 1 ≤ j ∧ j < wr.heap.size := fun j hj => h.r1.lt j hj
  have hv2 : ∀ j, v2.ownBlock = some j → b + 1 ≤ j ∧ j < wr.heap.size := fun j hj => h.r2.lt j hj
  have keep : ∀ j, j < wr.heap.size → v1.ownBlock ≠ some j → w1.heap[j]? = wr.heap[j]? := fun j hj hne => (hgrow.block j (by simp; omega) (fun e => hne e.symm)).trans (((Below.refl _ wr).alloc (Nat.le_refl _) _).block j hj)
  have hwb : w1.heap[b]? = wr.heap[b]? := keep _ hlt (fun e => by have := hv1 _ e; omega)
  have set : ∀ j, j ≠ b → (w1.setCell ⟨b, 1, none⟩ v1').heap[j]? = w1.heap[j]? := fun j hj => Below.heap_setCell _ _ _ _ (by simpa using hj)
  refine ⟨⟨?_, (set _ (by omega)).trans ((keep _ (by omega) (fun e => by have := hv1 _ e; omega)).trans h.farm), (set _ (by omega)).trans ((keep _ (by omega) (fun e => by have := hv1 _ e; omega)).trans h.res), ?_, ?_, ?_, ?_, hb⟩, hwb, by omega⟩
  · exact ((h.below.alloc h.below.size _).grown hgrow (by simp; have := h.below.size; omega) (fun j hj => by have := hv1 j hj; omega)).setCell (p := ⟨b, 1, none⟩) (by show w.heap.size ≤ b; omega) _
  · have := set_cells (o := 1) (hwb.trans h.var) v1'
    simpa using this
  · have e : (List.replicate (k1 + 1) (-1 : Int)).map (Value.int .i64) = (List.replicate k1 (-1)).map (Value.int .i64) ++ [.int .i64 (-1)] := by simp [List.replicate_succ']
    have ho : SlRow w1 (b + 1) v1' (List.replicate (k1 + 1) (-1)) := by unfold SlRow; rw [e]; simpa using hown
    exact ownsRow_same ho fun j hj => set j (by have := ho.lt j hj; omega)
  · exact ownsRow_same h.r2 fun j hj => (set j (by have := hv2 j hj; omega)).trans (keep j (hv2 j hj).2 (fun e => h.apart j e hj))
  · intro j hj hj2
    rcases hnear j hj with e | e
    · exact h.apart j e hj2
    · have := hv2 j hj2; omega
/-- The second row is one longer. -/
theorem NR.push2 (h : NR w A n c dry b k1 k2 v1 v2 wr) {v2' : Value} {w1 : World} (hown : w1.ownsRow (b + 1) 3 1 v2' (k2 + 1) ((List.replicate k2 (0)).map (Value.int .i64) ++ [.int .i64 (0)])) (hgrow : (wr.alloc (.cells #[.int .i64 (0)] 3)).grownBy w1 v2.ownBlock)
    (hnear : ∀ j, v2'.ownBlock = some j → v2.ownBlock = some j ∨ (wr.alloc (.cells #[.int .i64 (0)] 3)).heap.size ≤ j) :
    NR w A n c dry b k1 (k2 + 1) v1 v2' (w1.setCell ⟨b, 2, none⟩ v2') ∧ w1.heap[b]? = wr.heap[b]? ∧ b < w1.heap.size := by
  have hb := h.hb
  have hlt := h.lt
  have hs := hgrow.size
  simp only [World.size_alloc] at hs hnear
  have hv1 : ∀ j, v1.ownBlock = some j → b + 1 ≤ j ∧ j < wr.heap.size := fun j hj => h.r1.lt j hj
  have hv2 : ∀ j, v2.ownBlock = some j → b + 1 ≤ j ∧ j < wr.heap.size := fun j hj => h.r2.lt j hj
  have keep : ∀ j, j < wr.heap.size → v2.ownBlock ≠ some j → w1.heap[j]? = wr.heap[j]? := fun j hj hne => (hgrow.block j (by simp; omega) (fun e => hne e.symm)).trans (((Below.refl _ wr).alloc (Nat.le_refl _) _).block j hj)
  have hwb : w1.heap[b]? = wr.heap[b]? := keep _ hlt (fun e => by have := hv2 _ e; omega)
  have set : ∀ j, j ≠ b → (w1.setCell ⟨b, 2, none⟩ v2').heap[j]? = w1.heap[j]? := fun j hj => Below.heap_setCell _ _ _ _ (by simpa using hj)
  refine ⟨⟨?_, (set _ (by omega)).trans ((keep _ (by omega) (fun e => by have := hv2 _ e; omega)).trans h.farm), (set _ (by omega)).trans ((keep _ (by omega) (fun e => by have := hv2 _ e; omega)).trans h.res), ?_, ?_, ?_, ?_, hb⟩, hwb, by omega⟩
  · exact ((h.below.alloc h.below.size _).grown hgrow (by simp; have := h.below.size; omega) (fun j hj => by have := hv2 j hj; omega)).setCell (p := ⟨b, 2, none⟩) (by show w.heap.size ≤ b; omega) _
  · have := set_cells (o := 2) (hwb.trans h.var) v2'
    simpa using this
  · exact ownsRow_same h.r1 fun j hj => (set j (by have := hv1 j hj; omega)).trans (keep j (hv1 j hj).2 (fun e => h.apart j hj e))
  · have e : (List.replicate (k2 + 1) (0 : Int)).map (Value.int .i64) = (List.replicate k2 0).map (Value.int .i64) ++ [.int .i64 0] := by simp [List.replicate_succ']
    have ho : SlRow w1 (b + 1) v2' (List.replicate (k2 + 1) 0) := by unfold SlRow; rw [e]; simpa using hown
    exact ownsRow_same ho fun j hj => set j (by have := ho.lt j hj; omega)
  · intro j hj hj2
    rcases hnear j hj2 with e | e
    · exact h.apart j hj e
    · have := hv1 j hj; omega
end
theorem nr_cells {w : World} {b : Nat} {v0 v1 v2 v3 v4 v5 : Value} (h : w.heap[b]? = some (.cells #[v0, v1, v2, v3, v4, v5] 43 (0, 0))) : w.cell? ⟨b, 1, none⟩ = some v1 ∧ w.cell? ⟨b, 2, none⟩ = some v2 ∧ ∀ o, w.frozen? ⟨b, o, none⟩ = false := by
  refine ⟨?_, ?_, fun o => frozen_four h o⟩ <;> simp [World.cell?, h]

set_option maxHeartbeats 2000000 in
set_option maxRecDepth 100000 in
theorem rnew_any (A : Option Addr) (c : Nat) (pl : List Plot) (dry : Int) (w : World) (h : RdPlots w A pl) :
    Calls Try.prog 24 #[.agg #[.slice A pl.length c, .int .i64 dry]] w (NewOut pl dry w) := by
  have hl1 := h.1.1
  obtain ⟨ck, hck⟩ : ∃ ck, ck = checkI pl dry := ⟨_, rfl⟩
  have hBz : Hid (Below w.heap.size w ((w.alloc (.cells #[.slice A pl.length c, .int .i64 dry] 24)).alloc (.cells zero6 43))) := ((Below.refl _ w).alloc (Nat.le_refl _) _).alloc (by simp) _
  have hca : ∀ W, RdPlots W A pl → Calls Try.prog 26 #[.agg #[.slice A pl.length c, .int .i64 dry]] W fun e w' => e = .returned (.int .i64 ck) ∧ Below W.heap.size W w' := fun W hW => hck ▸ rcheck_any A c pl dry W hW
  replace hca := Lib.hid hca
  by_cases hc0 : ck = 0
  · subst hc0
    have hlen : pl.length ≤ 12 := (checkI_zero hck.symm).1
    replace hck := Lib.hid hck.symm
    go_enter Try.func24, Try.ntmps24
    go_wp2_with (go_at_call 26; refine (hca.out _ (h.below hBz.out)).mono ?_; rintro e w1 ⟨rfl, hb1⟩; have z1 : w.heap.size + 2 ≤ w1.heap.size := (by have := hb1.size; simp at this; omega); have hN := Lib.hid (NR.start (hBz.out.trans (hb1.mono hBz.out.size)) ((hb1.block _ (by simp; omega)).trans (heap_old _ _ _ _ (heap_new _ _ _ rfl))) ((hb1.block _ (by simp)).trans (heap_new _ _ _ (by simp))) z1))
    go_loopw [6] (fun v wr => ∃ k : Nat, v = .int .i64 k ∧ k ≤ pl.length ∧ Hid (∃ v1 v2, NR w A pl.length c dry w1.heap.size k k v1 v2 wr)) (fun v _ => pl.length - (intOf v).toNat)
    case atStart => exact ⟨0, rfl, Nat.zero_le _, _, _, hN.out⟩
    case round =>
      obtain ⟨k, rfl, hk, hN⟩ := hrel
      obtain ⟨v1, v2, hN⟩ := hN.out
      have e0 := cell_of_two hN.farm
      by_cases hlt : k < pl.length
      · have e1 : wr.cell? ⟨w1.heap.size, 1, none⟩ = some v1 := by simp [World.cell?, hN.var]
        have q1 := Lib.hid (cell_one_new wr (.int .i64 (-1)) 3)
        have hbl := hN.lt
        have hN := Lib.hid hN
        have hm1 : Hid ((List.replicate k (-1 : Int)).length + 1 ≤ maxLen) := by unfold Hid maxLen; simp; omega
        have hm2 : Hid (((List.replicate k (-1 : Int)).length + 1) * 8 ≤ 140737488355328) := by unfold Hid; simp; omega
        have hm3 : Hid ((List.replicate k (0 : Int)).length + 1 ≤ maxLen) := by unfold Hid maxLen; simp; omega
        have hm4 : Hid (((List.replicate k (0 : Int)).length + 1) * 8 ≤ 140737488355328) := by unfold Hid; simp; omega
        have hm5 : Hid (w1.heap.size + 1 ≤ (wr.alloc (.cells #[.int .i64 (-1)] 3)).heap.size) := by unfold Hid; simp; omega
        go_wp2_with (first | (at_builtin; refine wp_app _ rfl (.tmp 21) (.tmp 22) 29 rfl (w1.heap.size + 1) 3 1 8 Try.underlying29 info3 rfl (by decide) _ _ _ rfl (SlRow.below hN.out.r1 ((Below.refl _ wr).alloc (Nat.le_refl _) _)) ⟨wr.heap.size, 0, none⟩ 1 1 [.int .i64 (-1)] rfl rfl q1.out (by simp [Value.oneCell']) hm1.out hm2.out hm5.out ?_; intro v1' wA hown hgrow hnear; rw [List.length_replicate] at hown; obtain ⟨gA, cA, rfl, _, _⟩ := row_succ hown; obtain ⟨hN1, hv1, hl1⟩ := hN.out.push1 hown hgrow hnear; obtain ⟨eA1, eA2, fA⟩ := nr_cells (hv1.trans hN.out.var); have hN1 := Lib.hid hN1; have q2 := cell_one_new (wA.setCell ⟨w1.heap.size, 1, none⟩ (.slice (some ⟨gA, 0, none⟩) (k + 1) cA)) (.int .i64 0) 3; rw [set_size] at q2; replace q2 := Lib.hid q2; have hm6 : Hid (w1.heap.size + 1 ≤ ((wA.setCell ⟨w1.heap.size, 1, none⟩ (.slice (some ⟨gA, 0, none⟩) (k + 1) cA)).alloc (.cells #[.int .i64 0] 3)).heap.size) := (by unfold Hid; rw [World.size_alloc, set_size]; omega); clear hown hgrow hnear hv1) | (at_builtin; refine wp_app _ rfl (.tmp 26) (.tmp 27) 29 rfl (w1.heap.size + 1) 3 1 8 Try.underlying29 info3 rfl (by decide) _ _ _ rfl (SlRow.below hN1.out.r2 ((Below.refl _ _).alloc (Nat.le_refl _) _)) ⟨wA.heap.size, 0, none⟩ 1 1 [.int .i64 0] rfl rfl q2.out (by simp [Value.oneCell']) hm3.out hm4.out hm6.out ?_; intro v2' wB hown hgrow hnear; rw [List.length_replicate] at hown; obtain ⟨gB, cB, rfl, _, _⟩ := row_succ hown; obtain ⟨hN2, hv2, hl2⟩ := hN1.out.push2 hown hgrow hnear; obtain ⟨eB1, eB2, fB⟩ := nr_cells (hv2.trans hN1.out.var); have hN2 := Lib.hid hN2; clear hown hgrow hnear hv2))
        exact ⟨⟨k + 1, by go_num, by omega, _, _, hN2.out⟩, by simp only [intOf]; omega⟩
      · have hke : k = pl.length := by omega
        subst hke
        obtain ⟨A1, kc1, rfl, hr1⟩ := hN.r1.reads (by simp; omega)
        obtain ⟨A2, kc2, rfl, hr2⟩ := hN.r2.reads (by simp; omega)
        have hv := hN.var
        rw [List.length_replicate, List.length_replicate] at hv
        obtain ⟨e1, e2, e3, e4, e5, e6, _⟩ := six_of hv
        obtain ⟨g1, g2, g3, g4, g5, g6, fz⟩ := six_of hN.res
        replace hv := Lib.hid hv
        replace hr1 := Lib.hid hr1
        replace hr2 := Lib.hid hr2
        replace hN := Lib.hid hN
        go_wp2
        obtain ⟨Wf, hWf⟩ : ∃ Wf, Wf = SS6 wr (w.heap.size + 1) (.slice A1 pl.length kc1) (.slice A2 pl.length kc2) := ⟨_, rfl⟩
        have hfb : Below w.heap.size w Wf := by rw [hWf]; exact set6_below _ _ _ _ _ _ hN.out.below (by omega)
        have hfo : Wf.heap[w.heap.size + 1]? = some (.cells #[.int .i64 0, .slice A1 pl.length kc1, .slice A2 pl.length kc2, .slice none 0 0, .slice none 0 0, .slice none 0 0] 43 (0, 0)) := by rw [hWf]; exact set6 _ _ _ _ _ _ hN.out.res
        have hf1 : SlRow Wf (w1.heap.size + 1) (.slice A1 (List.replicate pl.length (-1 : Int)).length kc1) (List.replicate pl.length (-1)) := by rw [hWf]; exact ownsRow_same hN.out.r1 fun j hj => set6_other _ _ _ _ _ _ (by have := hN.out.r1.lt j hj; have := hN.out.hb; omega)
        have hf2 : SlRow Wf (w1.heap.size + 1) (.slice A2 (List.replicate pl.length (0 : Int)).length kc2) (List.replicate pl.length 0) := by rw [hWf]; exact ownsRow_same hN.out.r2 fun j hj => set6_other _ _ _ _ _ _ (by have := hN.out.r2.lt j hj; have := hN.out.hb; omega)
        obtain ⟨A1', c1', e1', hx1⟩ := hf1.reads (by simp; omega)
        obtain ⟨A2', c2', e2', hx2⟩ := hf2.reads (by simp; omega)
        cases e1'
        cases e2'
        unfold SS6 at hWf
        rw [← hWf]
        obtain ⟨c0, c1, c2, c3, c4, c5, _⟩ := six_of hfo
        refine bodyPost_ret (v := .tuple #[.agg #[.int .i64 0, .slice A1 pl.length kc1, .slice A2 pl.length kc2, .slice none 0 0, .slice none 0 0, .slice none 0 0], .int .i64 0]) (by simp [results, Try.results24, go_sem, c0, c1, c2, c3, c4, c5]) rfl ?_
        refine ⟨⟨0, List.replicate pl.length (-1), List.replicate pl.length 0, [], [], [], A1, kc1, A2, kc2, none, 0, none, 0, none, 0⟩, ?_, ?_, ?_, hfb⟩
        · rw [hck.out]; simp [storeVal, storeCells]
        · exact ⟨hx1, hx2, ⟨⟨by simp, by simp⟩, by simp⟩, ⟨by simp, by simp⟩, ⟨by simp, by simp⟩⟩
        · unfold newS; rw [if_pos hck.out]; exact ⟨rfl, rfl, rfl, rfl, rfl, rfl, fun i h1 _ => absurd h1 (Nat.not_lt_zero _)⟩
  · have hcb : (ck != 0) = true := bne_iff_ne.2 hc0
    have hck0 : Hid (checkI pl dry ≠ 0) := by unfold Hid; rw [← hck]; exact hc0
    replace hck := Lib.hid hck
    go_enter Try.func24, Try.ntmps24
    go_wp2_with (go_at_call 26; refine (hca.out _ (h.below hBz.out)).mono ?_; rintro e w1 ⟨rfl, hb1⟩; have z1 : w.heap.size + 1 < w1.heap.size := (by have := hb1.size; simp at this; omega); have hres := (hb1.block (w.heap.size + 1) (by simp)).trans (heap_new _ _ _ (by simp)); obtain ⟨g1, g2, g3, g4, g5, g6, fz⟩ := six_of hres; replace hres := Lib.hid hres)
    obtain ⟨hfo, hnew⟩ := new_none (pl := pl) (dry := dry) hres.out (hBz.out.trans (hb1.mono hBz.out.size)) hck0.out
    obtain ⟨Wf, hWf⟩ : ∃ Wf, Wf = SS6 w1 (w.heap.size + 1) (.slice none 0 0) (.slice none 0 0) := ⟨_, rfl⟩
    rw [← hWf] at hfo hnew
    unfold SS6 at hWf
    rw [← hWf]
    obtain ⟨c0, c1, c2, c3, c4, c5, _⟩ := six_of hfo
    rw [← hck.out] at hnew
    exact bodyPost_ret (v := .tuple #[.agg #[.int .i64 0, .slice none 0 0, .slice none 0 0, .slice none 0 0, .slice none 0 0, .slice none 0 0], .int .i64 ck]) (by simp [results, Try.results24, go_sem, c0, c1, c2, c3, c4, c5]) rfl hnew
end Go.Proofs.Ytpgkhlpepckfgaa
