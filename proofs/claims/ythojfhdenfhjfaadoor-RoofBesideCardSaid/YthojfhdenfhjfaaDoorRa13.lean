/-
  Edges: all edges of a roof, as the program tells them: walked. PRINTED by genR25.py. divisor and Height: walked. PRINTED by genR26.py. Great: whether a roof is more than statements look at: walked. House, the roof of the chapter's examples: walked. lives, the examples of the chapter: walked.
-/
import Derived.Test.YthojfhdenfhjfaaDoorRa12
set_option linter.all false
set_option linter.unusedVariables false
set_option linter.unusedSimpArgs false
section
namespace Go.Proofs.YthojfhdenfhjfaaDoor
open Go.RowKit Go.Lib Go.Shelf

attribute [local go_sem] Oper.semAt_some
/-- Where a part of the code comes to its end. -/
def AtEnd (R : Act → World → Prop) : Exit → Act → World → Prop
  | .normal, a, w => R a w
  | _, _, _ => False
theorem AtEnd.elim {R : Act → World → Prop} {Q : Exit → Act → World → Prop} (h : ∀ a w, R a w → Q .normal a w) : ∀ e a w, AtEnd R e a w → Q e a w := fun e a w hr => by
  cases e
  case normal => exact h a w hr
  all_goals exact False.elim hr
def encRow (r : ERow) : List Value := [.int .i64 r.face, .int .i64 r.number, .int .i64 r.kind, .int .i64 r.withF, .int .i64 r.atE]
abbrev rowCells (r : ERow) : Array Value := #[.int .i64 r.face, .int .i64 r.number, .int .i64 r.kind, .int .i64 r.withF, .int .i64 r.atE]
theorem cells5 {w : World} {b : Nat} {v0 v1 v2 v3 v4 : Value} {t : TypeId} (h : w.heap[b]? = some (.cells #[v0, v1, v2, v3, v4] t (0, 0))) : w.cell? ⟨b, 0, none⟩ = some v0 ∧ w.cell? ⟨b, 1, none⟩ = some v1 ∧ w.cell? ⟨b, 2, none⟩ = some v2 ∧ w.cell? ⟨b, 3, none⟩ = some v3 ∧ w.cell? ⟨b, 4, none⟩ = some v4 := by
  refine ⟨?_, ?_, ?_, ?_, ?_⟩ <;> simp [World.cell?, h]
theorem rowR_news {V : World} {b : Nat} {r : ERow} (h : V.heap[b]? = some (.cells (rowCells r) 35 (0, 0))) : ∀ j u, (encRow r)[j]? = some u → V.cell? ((⟨b, 0, none⟩ : Addr).add j) = some u := fun j u hj => by
  rw [lit_add]
  simp only [World.cell?, h]
  have : (rowCells r)[j]? = some u := by rw [← Array.getElem?_toList]; exact hj
  simp [this]
theorem rowR_one (r : ERow) : ∀ u ∈ encRow r, u.oneCell' = true := fun u hu => by
  simp [encRow] at hu
  rcases hu with rfl | rfl | rfl | rfl | rfl <;> rfl
theorem encRow_len (r : ERow) : (encRow r).length = 5 := rfl
theorem own_rows {V : World} {base : Nat} {v : Value} {L : List ERow} (h : V.ownsRow base 35 5 v L.length (L.flatMap encRow)) (hl : L.length ≤ 100000) : ∃ A c, v = .slice A L.length c ∧ FlatRow encRow 5 V A L := by
  rcases h.2 with ⟨h1, h2⟩ | ⟨g, cap, cur, h1, _, h3, _, _, _, h4⟩
  · have : L = [] := List.eq_nil_of_length_eq_zero h2
    subst this
    exact ⟨none, 0, h1, by simp, fun i x hx => by simp at hx⟩
  · refine ⟨some ⟨g, 0, none⟩, cap, h1, by omega, fun i x hx => ⟨_, rfl, fun j u hu => ?_⟩⟩
    exact h.cells (g := g) (by rw [h1]; rfl) _ _ (flat_get encRow_len L i x j u hx hu)
/-- The rows so far. -/
structure EgX (wB : World) (m0 hb b4 b6 : Nat) (L : List ERow) (V : World) : Prop where
  y : Below wB.heap.size wB V
  b : V.heap[b4]? = some (.cells #[.pointer (some ⟨hb, 0, none⟩)] 104 (0, 0))
  o : ∃ v, V.heap[b6]? = some (.cells #[v] 30 (0, 0)) ∧ V.ownsRow m0 35 5 v L.length (L.flatMap encRow)
section
variable {wB : World} {m0 hb b4 b6 n₀ : Nat} {L : List ERow} {V V' : World}
theorem own_cells {base : Nat} {e : TypeId} {sz n : Nat} {v : Value} {xs : List Value} (h1 : V.ownsRow base e sz v n xs) (hc : ∀ (k : Nat) (o : Obj), V.heap[k]? = some o → o.isCells = true → V'.heap[k]? = some o) : V'.ownsRow base e sz v n xs := by
  refine ⟨h1.1, ?_⟩
  rcases h1.2 with h2 | ⟨g, cap, cur, h2, h3, h4, r⟩
  · exact .inl h2
  · exact .inr ⟨g, cap, cur, h2, h3, hc _ _ h4 rfl, r⟩
theorem EgX.later (h : EgX wB m0 hb b4 b6 L V) (hb' : Below V.heap.size V V') : EgX wB m0 hb b4 b6 L V' :=
  ⟨h.y.trans (hb'.mono h.y.size), (hb'.block _ (lt_block h.b)).trans h.b, by obtain ⟨v, h1, h2⟩ := h.o; exact ⟨v, (hb'.block _ (lt_block h1)).trans h1, ownsRow_same h2 (fun k hk => hb'.block k (h2.lt k hk).2)⟩⟩
theorem EgX.keep (h : EgX wB m0 hb b4 b6 L V) (hw : wB.heap.size ≤ m0) (hb' : Below m0 V V') (hc : ∀ (k : Nat) (o : Obj), V.heap[k]? = some o → o.isCells = true → V'.heap[k]? = some o) : EgX wB m0 hb b4 b6 L V' :=
  ⟨h.y.trans (hb'.mono hw), hc _ _ h.b rfl, by obtain ⟨v, h1, h2⟩ := h.o; exact ⟨v, hc _ _ h1 rfl, own_cells h2 hc⟩⟩
theorem EgX.grown {B : Nat} {row : Option Nat} (h : EgX wB m0 hb b4 b6 L V) (hg : V.grownBy V' row) (hw : wB.heap.size ≤ B) (hr : ∀ r, row = some r → B ≤ r ∧ ∃ o : Obj, V.heap[r]? = some o ∧ o.isCells = false) : EgX wB m0 hb b4 b6 L V' :=
  have hc : ∀ (k : Nat) (o : Obj), V.heap[k]? = some o → o.isCells = true → V'.heap[k]? = some o := fun k o h ho => (hg.block k (lt_block h) (fun e => by obtain ⟨o2, h2, h3⟩ := (hr k e.symm).2; rw [h] at h2; cases h2; rw [ho] at h3; cases h3)).trans h
  ⟨h.y.grown hg h.y.size (fun k e => Nat.le_trans hw (hr k e).1), hc _ _ h.b rfl, by obtain ⟨v, h1, h2⟩ := h.o; exact ⟨v, hc _ _ h1 rfl, own_cells h2 hc⟩⟩
/-- One row more. -/
theorem rowR_step {B : Nat} {X w1 : World} {v v' : Value} {r : ERow} (h : EgX wB m0 hb b4 b6 L V) (hv : V.heap[b6]? = some (.cells #[v] 30 (0, 0))) (hrow : V.ownsRow m0 35 5 v L.length (L.flatMap encRow)) (hX : Below V.heap.size V X)
    (hw : wB.heap.size ≤ b6) (hb6 : b6 < B) (hB : B ≤ m0) (hb4 : b4 < B)
    (h1 : w1.ownsRow m0 35 5 v' (L.length + 1) (L.flatMap encRow ++ encRow r)) (hg : X.grownBy w1 v.ownBlock) :
    KeepsFrom B V (w1.setCell ⟨b6, 0, none⟩ v') ∧ KpE m0 wB.heap.size V (w1.setCell ⟨b6, 0, none⟩ v') ∧ EgX wB m0 hb b4 b6 (L ++ [r]) (w1.setCell ⟨b6, 0, none⟩ v') ∧ w1.heap[b6]? = some (.cells #[v] 30 (0, 0)) := by
  have hVX := hX.size
  have hw1 : X.heap.size ≤ w1.heap.size := hg.size
  have hr0 : ∀ k, v.ownBlock = some k → m0 ≤ k ∧ k < V.heap.size := fun k hk => hrow.lt k hk
  have keep : ∀ k, k < V.heap.size → some k ≠ v.ownBlock → k ≠ b6 → (w1.setCell ⟨b6, 0, none⟩ v').heap[k]? = V.heap[k]? := fun k hk h2 h3 =>
    ((Below.heap_setCell _ _ _ _ h3).trans (hg.block k (by omega) h2)).trans (hX.block k hk)
  have hty : ∀ k cs t mm, V.heap[k]? = some (.cells cs t mm) → t ≠ 35 → some k ≠ v.ownBlock := fun k cs t mm hk ht q => by
    rcases hrow.2 with ⟨e1, _⟩ | ⟨g, cap, cur, e1, _, e3, _⟩
    · rw [e1] at q; cases q
    · rw [e1] at q
      simp [Value.ownBlock] at q
      subst q
      rw [hk] at e3
      cases e3
      exact ht rfl
  have hno : ∀ k o, V.heap[k]? = some o → o.isCells = false → some k ≠ v.ownBlock := fun k o hk ho q => by
    rcases hrow.2 with ⟨e1, _⟩ | ⟨g, cap, cur, e1, _, e3, _⟩
    · rw [e1] at q; cases q
    · rw [e1] at q
      simp [Value.ownBlock] at q
      subst q
      rw [hk] at e3
      cases e3
      cases ho
  have h6 : w1.heap[b6]? = some (.cells #[v] 30 (0, 0)) := ((hg.block b6 (by have := lt_block hv; omega) (hty _ _ _ _ hv (by decide))).trans (hX.block b6 (lt_block hv))).trans hv
  have hks : ∀ (k : Nat) (o : Obj), V.heap[k]? = some o → o.isCells = false → (w1.setCell ⟨b6, 0, none⟩ v').heap[k]? = some o := fun k o hk ho =>
    (keep k (lt_block hk) (hno k o hk ho) (fun q => by subst q; rw [hv] at hk; cases hk; cases ho)).trans hk
  have hsz : V.heap.size ≤ (w1.setCell ⟨b6, 0, none⟩ v').heap.size := by rw [set_size]; omega
  have hlow : Below wB.heap.size V (w1.setCell ⟨b6, 0, none⟩ v') := by
    have hyz := h.y.size
    refine ((hX.mono hyz).grown hg (by omega) (fun k q => ?_)).setCell (p := ⟨b6, 0, none⟩) hw _
    have := (hr0 k q).1
    omega
  refine ⟨⟨hsz, fun k o _ hk ho => hks k o hk ho⟩, ⟨hlow, fun k cs t mm ht hk => ?_, ⟨hsz, fun k o _ hk ho => hks k o hk ho⟩⟩, ⟨h.y.trans hlow, ?_, v', set_cells h6 _, ?_⟩, h6⟩
  · refine (keep k (lt_block hk) (hty _ _ _ _ hk (fun q => by subst q; simp at ht)) (fun q => ?_)).trans hk
    subst q
    rw [hv] at hk
    cases hk
    simp at ht
  · refine (keep b4 (lt_block h.b) (hty _ _ _ _ h.b (by decide)) (fun q => ?_)).trans h.b
    have h2 := h.b
    rw [q, hv] at h2
    cases h2
  · rw [List.length_append, List.flatMap_append]
    simp only [List.length_cons, List.length_nil, List.flatMap_cons, List.flatMap_nil, List.append_nil]
    exact ownsRow_setCell_other h1 (fun q => by have := (h1.lt _ q).1; simp at this; omega) _
end
set_option maxHeartbeats 4000000 in
set_option maxRecDepth 100000 in
theorem edgesR_any (r : Roof) (w : World) (hR : RdRoof w r) (hfa : FaX w) (hlf : r.faces.length ≤ 100000) (hlo : r.opens.length ≤ 100000) :
    Calls Tryd.prog 35 #[roofVal r] w fun e w' => Below w.heap.size w w' ∧ ((checkR r ≠ 0 ∧ e = .returned (.tuple #[.slice none 0 0, .int .i64 (checkR r)])) ∨ (checkR r = 0 ∧ ∃ A c, e = .returned (.tuple #[.slice A (rowsL r.faces).length c, .int .i64 0]) ∧ FlatRow encRow 5 w' A (rowsL r.faces))) := by
  obtain ⟨ce, hce⟩ : ∃ x, x = checkR r := ⟨_, rfl⟩
  have hok : ce = 0 → OkFs r.faces := fun h => OkFs.of (hce ▸ h)
  have c50 := fun V (hV : Below w.heap.size w V) => built_any r V (hR.below hV) hlf hlo
  rw [← hce] at c50 ⊢
  replace hce := Lib.hid hce
  obtain ⟨fs, os, fa, fc, oa, oc⟩ := r
  obtain ⟨hRF, hRO, hcf, hco⟩ := hR
  dsimp only [roofVal] at *
  have hB0 : Hid (Below w.heap.size w (w.alloc (.cells #[.slice fa fs.length fc, .slice oa os.length oc] 25))) := (Below.refl _ w).alloc (Nat.le_refl _) _
  have hc0 : Hid ((w.alloc (.cells #[.slice fa fs.length fc, .slice oa os.length oc] 25)).heap[w.heap.size]? = some (.cells #[.slice fa fs.length fc, .slice oa os.length oc] 25 (0, 0))) := heap_new _ _ _ rfl
  refine (callsIn_wide (n := 12)).1 ?_
  refine callsIn_of_wp_marks Tryd.func35 rfl trivial ?_ rfl
  simp only [Tryd.ntmps35, List.size_toArray, List.length_cons, List.length_nil, Nat.reduceAdd, Nat.reduceSub, Array.replicate_succ, Array.replicate_zero, List.push_toArray, List.append_toArray, List.nil_append, List.cons_append]
  by_cases hz : ce = 0
  · subst hz
    have hok' := Lib.hid (hok rfl)
    have c50' : Hid (∀ V, Below w.heap.size w V → Calls Tryd.prog 50 #[.agg #[.slice fa fs.length fc, .slice oa os.length oc]] V fun e w' => Below V.heap.size V w' ∧ ∃ hb mb, e = .returned (.tuple #[.pointer (some ⟨hb, 0, none⟩), .int .i64 0]) ∧ w'.heap[hb]? = some (.cells #[.slice fa fs.length fc, .slice oa os.length oc, .map (some mb)] 156 (0, 0)) ∧ BesX w' mb (edgesL fs)) := fun V hV => by
      refine (c50 V hV).mono ?_
      rintro e w' ⟨h1, h2 | h2⟩
      · exact absurd rfl h2.1
      · exact ⟨h1, h2.2⟩
    clear c50 hok
    gi_wp2_with (first | (refine ⟨trivial, ?_⟩; gi_at_call 50; refine (callsIn_wide.2 (c50'.out _ hB0.out)).mono ?_; rintro e wB ⟨hb1, hb, mb, rfl, hhB, hbes⟩) | (refine ⟨trivial, ?_⟩; gi_at_call 67; refine (callsIn_wide.2 (houseEdges_any _ _)).mono ?_; rintro e w2 ⟨rfl, rfl⟩))
    obtain ⟨wS, hwS⟩ : ∃ x, x = (((wB.alloc (.cells #[.pointer (some ⟨hb, 0, none⟩)] 104)).alloc (.cells #[.slice none 0 0] 30)).alloc (.cells #[.pointer (some ⟨hb, 0, none⟩)] 104)) := ⟨_, rfl⟩
    rw [← hwS]
    have hBB : Below w.heap.size w wB := hB0.out.trans (hb1.mono hB0.out.size)
    have hsB := hBB.size
    have hBS1 : Below wB.heap.size wB wS := by rw [hwS]; exact (((Below.refl _ wB).alloc (Nat.le_refl _) _).alloc (by simp) _).alloc (by simp; omega) _
    have hsz : wS.heap.size = wB.heap.size + 3 := by rw [hwS]; simp
    have hbS : wS.heap[wB.heap.size]? = some (.cells #[.pointer (some ⟨hb, 0, none⟩)] 104 (0, 0)) := by rw [hwS]; exact heap_old _ _ _ _ (heap_old _ _ _ _ (heap_new _ _ _ rfl))
    have hoS : wS.heap[wB.heap.size + 1]? = some (.cells #[.slice none 0 0] 30 (0, 0)) := by rw [hwS]; exact heap_old _ _ _ _ (heap_new _ _ _ (by simp))
    have hcS : wS.heap[wB.heap.size + 1 + 1]? = some (.cells #[.pointer (some ⟨hb, 0, none⟩)] 104 (0, 0)) := by rw [hwS]; exact heap_new _ _ _ (by simp)
    replace hwS := Lib.hid hwS
    have hHB : HsX wB hb mb fs fa fc (.slice oa os.length oc) := ⟨hhB, hRF.below hBB, hfa.later hBB⟩
    have hlc : ∀ f ∈ fs, f.corners.length ≤ 100000 := fun f hf => by
      obtain ⟨k, hk, rfl⟩ := nth_of hf
      have := (hok'.out.face k hk).most
      omega
    have hI0 : EgX wB (wS.heap.size + 2) hb wB.heap.size (wB.heap.size + 1) [] wS := ⟨hBS1, hbS, _, hoS, World.ownsRow_nil _ _ _ _⟩
    have hfew := edges_few hok'.out
    refine range_low (F := Fence.wide) (n := 12) (α := EdgOf fs) rfl (by decide) (gf := 107) (lb := #[.pointer (some ⟨wB.heap.size + 1 + 1, 0, none⟩)]) rfl trivial (enters_of Tryd.func107 (by kernel_rfl) rfl) (encs := encEdge) (Kp := KpE (wS.heap.size + 2) wB.heap.size) (S := fun xs => xs.map (·.1) = edgesL fs)
      (fun pre V => EgX wB (wS.heap.size + 2) hb wB.heap.size (wB.heap.size + 1) ((valsE pre).map (rowE fs)) V) (edgesL fs).length
      (fun l J V hV hVs hJk _ hYY hJ0 => edges1_in l (wS.heap.size + 2) wB.heap.size (wB.heap.size + 1 + 1) hb mb fs fa fc _ wB (hRF.below hBB) (Nat.le_refl _) hlf hlc J hJk hYY V hVs (by omega) (hBS1.trans (hV.mono hBS1.size)) ((hV.block _ (lt_block ((hBS1.block _ (lt_block hhB)).trans hhB))).trans ((hBS1.block _ (lt_block hhB)).trans hhB)) ((hV.block _ (lt_block hcS)).trans hcS) hJ0)
      KpE.trans (fun V l o o' hl hl2 h ho => KpE.put (w := wS) hBS1.size V l o o' hl hl2 h ho) (fun _ => rfl)
      (fun pre X Y row hs hg hr => hs.grown hg hBS1.size hr) (fun s A B hs hb hc => hs.keep (by omega) hb hc) hI0
      (fun pre x a' V => EgX wB (wS.heap.size + 2) hb wB.heap.size (wB.heap.size + 1) ((valsE pre).map (rowE fs)) V ∧ ∃ Bx, wS.heap.size + 2 ≤ Bx ∧ V.heap[Bx]? = some (.cells (edgCells x.1) 129 (0, 0)) ∧ a' = { tmps := #[.agg #[.slice fa fs.length fc, .slice oa os.length oc], .pointer (some ⟨w.heap.size, 0, none⟩), .slice none 0 0, .int .i64 0, .pointer (some ⟨wB.heap.size, 0, none⟩), .int .i64 0, .pointer (some ⟨wB.heap.size + 1, 0, none⟩), .pointer (some ⟨Bx, 0, none⟩), undef, undef, undef, .tuple #[.pointer (some ⟨hb, 0, none⟩), .int .i64 0], .agg #[.slice fa fs.length fc, .slice oa os.length oc], .tuple #[.pointer (some ⟨hb, 0, none⟩), .int .i64 0], .pointer (some ⟨hb, 0, none⟩), .int .i64 0, .int .i64 0, .bool false, undef, .pointer (some ⟨hb, 0, none⟩), .func (.func 107) #[] #[.pointer (some ⟨wB.heap.size + 1 + 1, 0, none⟩)], edgVal x.1, undef, undef, undef, undef, undef, undef, undef, undef, undef, undef, undef, undef, undef, undef, undef, undef, undef, undef, undef, undef, undef, undef, undef, undef, undef, undef], defers := [] })
      (fun x a' pre X Y row hs hg hr => ⟨hs.1.grown hg hBS1.size hr, by obtain ⟨Bx, e1, e2, e3⟩ := hs.2; exact ⟨Bx, e1, grown_cells hg (fun r e => (hr r e).2) e2, e3⟩⟩)
      ?assign ?body ?done
    case assign =>
      rintro y pre x V K hVs hI hK
      unfold encEdge
      gi_wp2
      have hbV : Below V.heap.size V (V.alloc (.cells (edgCells x.1) 129)) := (Below.refl _ V).alloc (Nat.le_refl _) _
      exact hK _ _ ((KeepsOthers.alloc _ _).from _) (KpE.of_below hbV hI.y.size) ⟨hI.later hbV, V.heap.size, hVs, heap_new _ _ _ rfl, rfl⟩
    case body =>
      rintro y pre x a' V ⟨hI, Bx, hBx, bX, rfl⟩ hlen
      dsimp only
      obtain ⟨e, he⟩ : ∃ e, e = x.1 := ⟨_, rfl⟩
      have hem : e ∈ edgesL fs := by rw [he]; exact x.2
      rw [← he] at bX ⊢
      obtain ⟨hea, heb⟩ := edge_small hok'.out hem
      obtain ⟨kd, hkd⟩ : ∃ k, k = kindE fs e := ⟨_, rfl⟩
      have hyw := hI.y.size
      have lBX := lt_block bX
      have hHV : HsX V hb mb fs fa fc (.slice oa os.length oc) := hHB.later hI.y
      have hbV : BesX V mb (edgesL fs) := hbes.later hI.y
      have c70 : Hid (∀ V', Below V.heap.size V V' → Calls Tryd.prog 70 #[.pointer (some ⟨hb, 0, none⟩), edgVal e] V' fun e' w' => e' = .returned (.int .i64 kd) ∧ Below V'.heap.size V' w') := fun V' h => by rw [hkd]; exact kind_any hb mb fs fa fc _ e V' (hHV.later h) (hbV.later h) hok'.out hem
      have c71 : Hid (∀ V', Below V.heap.size V V' → Calls Tryd.prog 71 #[.pointer (some ⟨hb, 0, none⟩), edgVal e] V' fun e' w' => e' = .returned (.tuple #[edgVal ((otherE fs e).getD noEdg), .bool (otherE fs e).isSome]) ∧ Below V'.heap.size V' w') := fun V' h => other_any hb mb fs fa fc _ e V' (hHV.later h) (hbV.later h) hea heb hfew
      have hcl : Hid (∀ V', Below V.heap.size V V' → V'.cell? ⟨wB.heap.size, 0, none⟩ = some (.pointer (some ⟨hb, 0, none⟩)) ∧ (V'.cell? ⟨Bx, 0, none⟩ = some (.int .i64 e.face) ∧ V'.cell? ⟨Bx, 1, none⟩ = some (.int .i64 e.number) ∧ V'.cell? ⟨Bx, 2, none⟩ = some (.int .i64 e.s.a.x) ∧ V'.cell? ⟨Bx, 3, none⟩ = some (.int .i64 e.s.a.y) ∧ V'.cell? ⟨Bx, 4, none⟩ = some (.int .i64 e.s.b.x) ∧ V'.cell? ⟨Bx, 5, none⟩ = some (.int .i64 e.s.b.y))) := fun V' h =>
        ⟨cells1 ((h.block _ (lt_block hI.b)).trans hI.b), cells6 ((h.block _ (lt_block bX)).trans bX)⟩
      obtain ⟨v, hv6, hrow⟩ := hI.o
      have l6 := lt_block hv6
      have hpl : ((valsE pre).map (rowE fs)).length ≤ 100000 := by simp [valsE]; omega
      have hOw : Hid (∀ X, Below V.heap.size V X → X.ownsRow (wS.heap.size + 2) 35 5 v ((valsE pre).map (rowE fs)).length (((valsE pre).map (rowE fs)).flatMap encRow)) := fun X h => ownsRow_same hrow (fun k hk => h.block k (hrow.lt k hk).2)
      have hvs : valsE (pre ++ [x]) = valsE pre ++ [e] := by rw [he]; simp [valsE]
      have hfin : Hid (∀ (r : ERow), r = rowE fs e → ∀ (X w1' : World) (v' : Value), Below V.heap.size V X → w1'.ownsRow (wS.heap.size + 2) 35 5 v' (((valsE pre).map (rowE fs)).length + 1) (((valsE pre).map (rowE fs)).flatMap encRow ++ encRow r) → X.grownBy w1' v.ownBlock →
          (KeepsFrom wS.heap.size V (w1'.setCell ⟨wB.heap.size + 1, 0, none⟩ v') ∧ KpE (wS.heap.size + 2) wB.heap.size V (w1'.setCell ⟨wB.heap.size + 1, 0, none⟩ v') ∧ EgX wB (wS.heap.size + 2) hb wB.heap.size (wB.heap.size + 1) ((valsE (pre ++ [x])).map (rowE fs)) (w1'.setCell ⟨wB.heap.size + 1, 0, none⟩ v')) ∧ w1'.heap[wB.heap.size + 1]? = some (.cells #[v] 30 (0, 0))) := fun r hr X w1' v' hX h1 hg => by
        obtain ⟨r1, r2, r3, r4⟩ := rowR_step (B := wS.heap.size) hI hv6 hrow hX (by omega) (by omega) (by omega) (by omega) h1 hg
        refine ⟨⟨r1, r2, ?_⟩, r4⟩
        rw [hvs, List.map_append, List.map_cons, List.map_nil, ← hr]
        exact r3
      have hm0 : wS.heap.size + 2 ≤ V.heap.size := by omega
      obtain ⟨nl, hnl⟩ : ∃ k, k = ((valsE pre).map (rowE fs)).length := ⟨_, rfl⟩
      rw [← hnl] at hOw hfin hpl
      replace hnl := Lib.hid hnl
      obtain ⟨i0, hi, hz0, hz1, hz2⟩ := info_parts infoR
      replace hkd := Lib.hid hkd
      replace he := Lib.hid he
      replace hvs := Lib.hid hvs
      gi_wp2
      refine wpIn_mono (Q := AtEnd fun a' w' => ∃ b8, V.heap.size ≤ b8 ∧ Below V.heap.size V w' ∧ w'.heap[b8]? = some (.cells (rowCells ⟨e.face, e.number, kd, -1, -1⟩) 35 (0, 0)) ∧ a' = { tmps := #[.agg #[.slice fa fs.length fc, .slice oa os.length oc], .pointer (some ⟨w.heap.size, 0, none⟩), .slice none 0 0, .int .i64 0, .pointer (some ⟨wB.heap.size, 0, none⟩), .int .i64 0, .pointer (some ⟨wB.heap.size + 1, 0, none⟩), .pointer (some ⟨Bx, 0, none⟩), .pointer (some ⟨b8, 0, none⟩), undef, undef, .tuple #[.pointer (some ⟨hb, 0, none⟩), .int .i64 0], .agg #[.slice fa fs.length fc, .slice oa os.length oc], .tuple #[.pointer (some ⟨hb, 0, none⟩), .int .i64 0], .pointer (some ⟨hb, 0, none⟩), .int .i64 0, .int .i64 0, .bool false, undef, .pointer (some ⟨hb, 0, none⟩), .func (.func 107) #[] #[.pointer (some ⟨wB.heap.size + 1 + 1, 0, none⟩)], edgVal e, .pointer (some ⟨Bx, 0, none⟩), .int .i64 e.face, .pointer (some ⟨Bx, 1, none⟩), .int .i64 e.number, .pointer (some ⟨hb, 0, none⟩), edgVal e, .int .i64 kd, .agg (rowCells ⟨e.face, e.number, kd, -1, -1⟩), undef, undef, undef, undef, undef, undef, undef, undef, undef, undef, undef, undef, undef, undef, undef, undef, undef, undef], defers := [] }) ?mid (AtEnd.elim fun a' w8 => ?rest)
      case mid =>
        have hSc : Below V.heap.size V V.drew := (Below.refl _ _).drew
        refine wpIn_region_tree (fun V' => Below V.heap.size V V') (.pure 0 (.read 1 (.pure 2 (.read 3 (.read 4 (.read 5 (.two 6 (.pure 7 (.one 8 (.one 9 .done))) 8 (.one 6 (.pure 7 (.one 9 .done)))))))))) [9] (by kernel_rfl) (by kernel_rfl) (by kernel_rfl) hSc ?_
        refine wpTreeIn_pure (v := ?_) rfl (by rfl) ?_ (fun _ => by rfl) (fun _ _ _ h => h) ?_
        rotate_left
        focus (intro w'; (try simp only [List.getElem_toArray, List.getElem_cons_zero, List.getElem_cons_succ]); go_simp; try with_reducible rfl)
        (try simp only [List.getElem_toArray, List.getElem_cons_zero, List.getElem_cons_succ, Act.put, List.setIfInBounds_toArray, List.set_cons_zero, List.set_cons_succ])
        refine wpTreeIn_take (v := ?_) rfl (by rfl) ?_ (fun _ => by rfl) (fun _ _ _ h => h) ?_
        rotate_left
        focus (intro w' hSw; obtain ⟨k0, k1, k2, k3, k4, k5, k6⟩ := hcl.out _ hSw; clear hSw; (try simp only [List.getElem_toArray, List.getElem_cons_zero, List.getElem_cons_succ]); go_simp; try with_reducible rfl)
        (try simp only [List.getElem_toArray, List.getElem_cons_zero, List.getElem_cons_succ, Act.put, List.setIfInBounds_toArray, List.set_cons_zero, List.set_cons_succ])
        refine wpTreeIn_pure (v := ?_) rfl (by rfl) ?_ (fun _ => by rfl) (fun _ _ _ h => h) ?_
        rotate_left
        focus (intro w'; (try simp only [List.getElem_toArray, List.getElem_cons_zero, List.getElem_cons_succ]); go_simp; try with_reducible rfl)
        (try simp only [List.getElem_toArray, List.getElem_cons_zero, List.getElem_cons_succ, Act.put, List.setIfInBounds_toArray, List.set_cons_zero, List.set_cons_succ])
        refine wpTreeIn_take (v := ?_) rfl (by rfl) ?_ (fun _ => by rfl) (fun _ _ _ h => h) ?_
        rotate_left
        focus (intro w' hSw; obtain ⟨k0, k1, k2, k3, k4, k5, k6⟩ := hcl.out _ hSw; clear hSw; (try simp only [List.getElem_toArray, List.getElem_cons_zero, List.getElem_cons_succ]); go_simp; try with_reducible rfl)
        (try simp only [List.getElem_toArray, List.getElem_cons_zero, List.getElem_cons_succ, Act.put, List.setIfInBounds_toArray, List.set_cons_zero, List.set_cons_succ])
        refine wpTreeIn_take (v := ?_) rfl (by rfl) ?_ (fun _ => by rfl) (fun _ _ _ h => h) ?_
        rotate_left
        focus (intro w' hSw; obtain ⟨k0, k1, k2, k3, k4, k5, k6⟩ := hcl.out _ hSw; clear hSw; (try simp only [List.getElem_toArray, List.getElem_cons_zero, List.getElem_cons_succ]); go_simp; try with_reducible rfl)
        (try simp only [List.getElem_toArray, List.getElem_cons_zero, List.getElem_cons_succ, Act.put, List.setIfInBounds_toArray, List.set_cons_zero, List.set_cons_succ])
        refine wpTreeIn_take (v := ?_) rfl (by rfl) ?_ (fun _ => by rfl) (fun _ _ _ h => h) ?_
        rotate_left
        focus (intro w' hSw; obtain ⟨k0, k1, k2, k3, k4, k5, k6⟩ := hcl.out _ hSw; clear hSw; (try simp only [List.getElem_toArray, List.getElem_cons_zero, List.getElem_cons_succ]); go_simp; try with_reducible rfl)
        (try simp only [List.getElem_toArray, List.getElem_cons_zero, List.getElem_cons_succ, Act.put, List.setIfInBounds_toArray, List.set_cons_zero, List.set_cons_succ])
        refine wpTreeIn_two rfl (by rfl) rfl (by rfl) ?_ ?_
        · (try simp only [List.getElem_toArray, List.getElem_cons_zero, List.getElem_cons_succ])
          go_simp
          refine ⟨trivial, ?_⟩
          gi_at_call 70
          refine (CallsIn.inRound y (callsIn_wide.2 (c70.out _ hSc))).mono ?_
          rintro e2 wca ⟨rfl, hbc⟩
          dsimp only
          have hSc := hSc.trans (hbc.mono hSc.size)
          refine ⟨by intros; exact hSc, ?_⟩
          (try simp only [List.getElem_toArray, List.getElem_cons_zero, List.getElem_cons_succ, Act.put, List.setIfInBounds_toArray, List.set_cons_zero, List.set_cons_succ])
          refine wpTreeIn_pure (v := ?_) rfl (by rfl) ?_ (fun _ => by rfl) (fun _ _ _ h => h) ?_
          rotate_left
          focus (intro w'; (try simp only [List.getElem_toArray, List.getElem_cons_zero, List.getElem_cons_succ]); go_simp; try with_reducible rfl)
          (try simp only [List.getElem_toArray, List.getElem_cons_zero, List.getElem_cons_succ, Act.put, List.setIfInBounds_toArray, List.set_cons_zero, List.set_cons_succ])
          refine wpTreeIn_do rfl (by rfl) ?_
          (try simp only [List.getElem_toArray, List.getElem_cons_zero, List.getElem_cons_succ])
          go_simp
          refine ⟨by intros; exact hSc.alloc hSc.size _, ?_⟩
          (try simp only [List.getElem_toArray, List.getElem_cons_zero, List.getElem_cons_succ, Act.put, List.setIfInBounds_toArray, List.set_cons_zero, List.set_cons_succ])
          refine wpTreeIn_do rfl (by rfl) ?_
          (try simp only [List.getElem_toArray, List.getElem_cons_zero, List.getElem_cons_succ])
          go_simp
          (try simp only [List.getElem_toArray, List.getElem_cons_zero, List.getElem_cons_succ, Act.put, List.setIfInBounds_toArray, List.set_cons_zero, List.set_cons_succ])
          (try unfold wpTreeIn)
          exact ⟨wca.heap.size, hSc.size, hSc.alloc hSc.size _, heap_new _ _ _ rfl, rfl⟩
        · (try simp only [List.getElem_toArray, List.getElem_cons_zero, List.getElem_cons_succ])
          go_simp
          obtain ⟨wb, hwb⟩ : ∃ z, z = (V.alloc (.cells #[.int .i64 0, .int .i64 0, .int .i64 0, .int .i64 0, .int .i64 0] 35)).drew := ⟨_, rfl⟩
          rw [← hwb]
          have hbk : wb.heap[V.heap.size]? = some (.cells #[.int .i64 0, .int .i64 0, .int .i64 0, .int .i64 0, .int .i64 0] 35 (0, 0)) := by rw [hwb]; exact heap_new _ _ _ rfl
          have hSc : Below V.heap.size V wb := by rw [hwb]; exact ((Below.refl _ V).alloc (Nat.le_refl _) _).drew
          replace hwb := Lib.hid hwb
          refine ⟨by intros; exact hSc, ?_⟩
          (try simp only [List.getElem_toArray, List.getElem_cons_zero, List.getElem_cons_succ, Act.put, List.setIfInBounds_toArray, List.set_cons_zero, List.set_cons_succ])
          refine wpTreeIn_do rfl (by rfl) ?_
          (try simp only [List.getElem_toArray, List.getElem_cons_zero, List.getElem_cons_succ])
          go_simp
          refine ⟨trivial, ?_⟩
          gi_at_call 70
          refine (CallsIn.inRound y (callsIn_wide.2 (c70.out _ hSc))).mono ?_
          rintro e2 wcb ⟨rfl, hbc⟩
          dsimp only
          have hSc := hSc.trans (hbc.mono hSc.size)
          have hbk := (hbc.block _ (lt_block hbk)).trans hbk
          refine ⟨by intros; exact hSc, ?_⟩
          (try simp only [List.getElem_toArray, List.getElem_cons_zero, List.getElem_cons_succ, Act.put, List.setIfInBounds_toArray, List.set_cons_zero, List.set_cons_succ])
          refine wpTreeIn_pure (v := ?_) rfl (by rfl) ?_ (fun _ => by rfl) (fun _ _ _ h => h) ?_
          rotate_left
          focus (intro w'; (try simp only [List.getElem_toArray, List.getElem_cons_zero, List.getElem_cons_succ]); go_simp; try with_reducible rfl)
          (try simp only [List.getElem_toArray, List.getElem_cons_zero, List.getElem_cons_succ, Act.put, List.setIfInBounds_toArray, List.set_cons_zero, List.set_cons_succ])
          refine wpTreeIn_do rfl (by rfl) ?_
          (try simp only [List.getElem_toArray, List.getElem_cons_zero, List.getElem_cons_succ])
          have y0 := cells5 hbk
          have g0 := frozen_row hbk 0
          have g1 := frozen_row hbk 1
          have g2 := frozen_row hbk 2
          have g3 := frozen_row hbk 3
          have g4 := frozen_row hbk 4
          obtain ⟨y0, y1, y2, y3, y4⟩ := y0
          go_simp
          (try simp only [List.getElem_toArray, List.getElem_cons_zero, List.getElem_cons_succ, Act.put, List.setIfInBounds_toArray, List.set_cons_zero, List.set_cons_succ])
          (try unfold wpTreeIn)
          exact ⟨V.heap.size, Nat.le_refl _, ((((hSc.setCell (p := ⟨V.heap.size, 0, none⟩) (Nat.le_refl _) _).setCell (p := ⟨V.heap.size, 1, none⟩) (Nat.le_refl _) _).setCell (p := ⟨V.heap.size, 2, none⟩) (Nat.le_refl _) _).setCell (p := ⟨V.heap.size, 3, none⟩) (Nat.le_refl _) _).setCell (p := ⟨V.heap.size, 4, none⟩) (Nat.le_refl _) _, set_cells (set_cells (set_cells (set_cells (set_cells hbk _) _) _) _) _, rfl⟩
      case rest =>
        rintro ⟨b8, hb8, hS8, hr8, rfl⟩
        obtain ⟨k0, k1, k2, k3, k4, k5, k6⟩ := hcl.out _ hS8
        cases hoe : otherE fs e with
        | none =>
          have hE : Hid (rowE fs e = ⟨e.face, e.number, kd, -1, -1⟩) := by unfold Hid rowE; rw [hoe, hkd.out]
          rw [hoe] at c71
          dsimp only [Option.getD, Option.isSome] at c71
          replace c71 := Lib.hid c71.out
          replace hoe := Lib.hid hoe
          gi_wp2_with (first | (refine ⟨trivial, ?_⟩; gi_at_call 71; refine (CallsIn.inRound y (callsIn_wide.2 (c71.out _ hS8))).mono ?_; rintro e2 w9 ⟨rfl, hb9⟩; have hS9 : Below V.heap.size V (w9.alloc (.cells #[.int .i64 0, .int .i64 0, .int .i64 0, .int .i64 0, .int .i64 0, .int .i64 0] 129)) := (hS8.trans (hb9.mono hS8.size)).alloc (Nat.le_trans hS8.size hb9.size) _; have hr9 : Hid ((w9.alloc (.cells #[.int .i64 0, .int .i64 0, .int .i64 0, .int .i64 0, .int .i64 0, .int .i64 0] 129)).heap[b8]? = some (.cells #[.int .i64 e.face, .int .i64 e.number, .int .i64 kd, .int .i64 (-1), .int .i64 (-1)] 35 (0, 0))) := heap_old _ _ _ _ ((hb9.block _ (lt_block hr8)).trans hr8); have hv9 : Hid ((w9.alloc (.cells #[.int .i64 0, .int .i64 0, .int .i64 0, .int .i64 0, .int .i64 0, .int .i64 0] 129)).heap[wB.heap.size + 1]? = some (.cells #[v] 30 (0, 0))) := (hS9.block _ l6).trans hv6; clear k0 k1 k2 k3 k4 k5 k6; obtain ⟨y0, y1, y2, y3, y4⟩ := cells5 hr9.out; have k6 := cells1 hv9.out; have hS10 : Below V.heap.size V ((w9.alloc (.cells #[.int .i64 0, .int .i64 0, .int .i64 0, .int .i64 0, .int .i64 0, .int .i64 0] 129)).alloc (.cells #[.int .i64 e.face, .int .i64 e.number, .int .i64 kd, .int .i64 (-1), .int .i64 (-1)] 35)) := hS9.alloc hS9.size _; have hr10 : Hid (((w9.alloc (.cells #[.int .i64 0, .int .i64 0, .int .i64 0, .int .i64 0, .int .i64 0, .int .i64 0] 129)).alloc (.cells #[.int .i64 e.face, .int .i64 e.number, .int .i64 kd, .int .i64 (-1), .int .i64 (-1)] 35)).heap[w9.heap.size + 1]? = some (.cells (rowCells ⟨e.face, e.number, kd, -1, -1⟩) 35 (0, 0))) := heap_new _ _ _ (by simp)) | (gi_at_builtin; refine wpListIn_append_own _ rfl _ _ 30 rfl (wS.heap.size + 2) 35 i0 _ 5 40 Tryd.underlying30 hi hz0 hz1 hz2 rfl (by decide) v _ _ rfl (hOw.out _ hS10) ⟨w9.heap.size + 1, 0, none⟩ 1 1 (encRow ⟨e.face, e.number, kd, -1, -1⟩) rfl rfl (rowR_news hr10.out) (rowR_one _) (by simp only [maxLen]; omega) (by omega) (Nat.le_trans hm0 hS10.size) ?_; intro v' w1' hown' hgrow' _; obtain ⟨g', cap', rfl⟩ := ownsRow_succ hown'; obtain ⟨hfA, hfB⟩ := hfin.out ⟨e.face, e.number, kd, -1, -1⟩ hE.out.symm _ _ _ hS10 hown' hgrow'; have h6 := cells1 hfB; have f6 := frozen_row hfB 0))
          exact hfA
        | some o =>
          have hE : Hid (rowE fs e = ⟨e.face, e.number, kd, o.face, o.number⟩) := by unfold Hid rowE; rw [hoe, hkd.out]
          rw [hoe] at c71
          dsimp only [Option.getD, Option.isSome] at c71
          replace c71 := Lib.hid c71.out
          replace hoe := Lib.hid hoe
          gi_wp2_with (refine ⟨trivial, ?_⟩; gi_at_call 71; refine (CallsIn.inRound y (callsIn_wide.2 (c71.out _ hS8))).mono ?_; rintro e2 w9 ⟨rfl, hb9⟩; have hS9 : Below V.heap.size V (w9.alloc (.cells #[.int .i64 o.face, .int .i64 o.number, .int .i64 o.s.a.x, .int .i64 o.s.a.y, .int .i64 o.s.b.x, .int .i64 o.s.b.y] 129)) := (hS8.trans (hb9.mono hS8.size)).alloc (Nat.le_trans hS8.size hb9.size) _; have hr9 : Hid ((w9.alloc (.cells #[.int .i64 o.face, .int .i64 o.number, .int .i64 o.s.a.x, .int .i64 o.s.a.y, .int .i64 o.s.b.x, .int .i64 o.s.b.y] 129)).heap[b8]? = some (.cells #[.int .i64 e.face, .int .i64 e.number, .int .i64 kd, .int .i64 (-1), .int .i64 (-1)] 35 (0, 0))) := heap_old _ _ _ _ ((hb9.block _ (lt_block hr8)).trans hr8); have hv9 : Hid ((w9.alloc (.cells #[.int .i64 o.face, .int .i64 o.number, .int .i64 o.s.a.x, .int .i64 o.s.a.y, .int .i64 o.s.b.x, .int .i64 o.s.b.y] 129)).heap[wB.heap.size + 1]? = some (.cells #[v] 30 (0, 0))) := (hS9.block _ l6).trans hv6; clear k0 k1 k2 k3 k4 k5 k6; obtain ⟨y0, y1, y2, y3, y4⟩ := cells5 hr9.out; have k6 := cells1 hv9.out)
          have hS9q := hS9
          obtain ⟨wq, hwq⟩ : ∃ z, z = (w9.alloc (.cells #[.int .i64 o.face, .int .i64 o.number, .int .i64 o.s.a.x, .int .i64 o.s.a.y, .int .i64 o.s.b.x, .int .i64 o.s.b.y] 129)).drew := ⟨_, rfl⟩
          have hSq : Below V.heap.size V wq := by rw [hwq]; exact hS9.drew
          have ho9 : wq.heap[w9.heap.size]? = some (.cells (edgCells o) 129 (0, 0)) := by rw [hwq]; exact heap_new _ _ _ rfl
          have hrq : wq.heap[b8]? = some (.cells #[.int .i64 e.face, .int .i64 e.number, .int .i64 kd, .int .i64 (-1), .int .i64 (-1)] 35 (0, 0)) := by rw [hwq]; exact hr9.out
          have hvq : wq.heap[wB.heap.size + 1]? = some (.cells #[v] 30 (0, 0)) := by rw [hwq]; exact hv9.out
          clear y0 y1 y2 y3 y4 k6 hr9 hv9 hS9 hS9q
          refine wpIn_region_tree (fun V' => V'.heap[w9.heap.size]? = some (.cells (edgCells o) 129 (0, 0))) (.pure 0 (.read 1 (.pure 2 (.read 3 (.pure 4 (.one 5 (.pure 6 (.one 7 .done)))))))) [7] (by kernel_rfl) (by kernel_rfl) (by kernel_rfl) (by rw [← hwq]; exact ho9) ?_
          rw [← hwq]
          replace hwq := Lib.hid hwq
          refine wpTreeIn_pure (v := ?_) rfl (by rfl) ?_ (fun _ => by rfl) (fun _ _ _ h => h) ?_
          rotate_left
          focus (intro w'; (try simp only [List.getElem_toArray, List.getElem_cons_zero, List.getElem_cons_succ]); go_simp; try with_reducible rfl)
          (try simp only [List.getElem_toArray, List.getElem_cons_zero, List.getElem_cons_succ, Act.put, List.setIfInBounds_toArray, List.set_cons_zero, List.set_cons_succ])
          refine wpTreeIn_take (v := ?_) rfl (by rfl) ?_ (fun _ => by rfl) (fun _ _ _ h => h) ?_
          rotate_left
          focus (intro w' hSw; obtain ⟨q0, q1, q2, q3, q4, q5⟩ := cells6 hSw; clear hSw; (try simp only [List.getElem_toArray, List.getElem_cons_zero, List.getElem_cons_succ]); go_simp; try with_reducible rfl)
          (try simp only [List.getElem_toArray, List.getElem_cons_zero, List.getElem_cons_succ, Act.put, List.setIfInBounds_toArray, List.set_cons_zero, List.set_cons_succ])
          refine wpTreeIn_pure (v := ?_) rfl (by rfl) ?_ (fun _ => by rfl) (fun _ _ _ h => h) ?_
          rotate_left
          focus (intro w'; (try simp only [List.getElem_toArray, List.getElem_cons_zero, List.getElem_cons_succ]); go_simp; try with_reducible rfl)
          (try simp only [List.getElem_toArray, List.getElem_cons_zero, List.getElem_cons_succ, Act.put, List.setIfInBounds_toArray, List.set_cons_zero, List.set_cons_succ])
          refine wpTreeIn_take (v := ?_) rfl (by rfl) ?_ (fun _ => by rfl) (fun _ _ _ h => h) ?_
          rotate_left
          focus (intro w' hSw; obtain ⟨q0, q1, q2, q3, q4, q5⟩ := cells6 hSw; clear hSw; (try simp only [List.getElem_toArray, List.getElem_cons_zero, List.getElem_cons_succ]); go_simp; try with_reducible rfl)
          (try simp only [List.getElem_toArray, List.getElem_cons_zero, List.getElem_cons_succ, Act.put, List.setIfInBounds_toArray, List.set_cons_zero, List.set_cons_succ])
          refine wpTreeIn_pure (v := ?_) rfl (by rfl) ?_ (fun _ => by rfl) (fun _ _ _ h => h) ?_
          rotate_left
          focus (intro w'; (try simp only [List.getElem_toArray, List.getElem_cons_zero, List.getElem_cons_succ]); go_simp; try with_reducible rfl)
          (try simp only [List.getElem_toArray, List.getElem_cons_zero, List.getElem_cons_succ, Act.put, List.setIfInBounds_toArray, List.set_cons_zero, List.set_cons_succ])
          refine wpTreeIn_do rfl (by rfl) ?_
          (try simp only [List.getElem_toArray, List.getElem_cons_zero, List.getElem_cons_succ])
          obtain ⟨y0, y1, y2, y3, y4⟩ := cells5 hrq
          have g3 := frozen_row hrq 3
          go_simp
          refine ⟨by intros; exact (Below.heap_setCell _ _ _ _ (by have := lt_block hr8; have := hb9.size; simp; omega)).trans ho9, ?_⟩
          (try simp only [List.getElem_toArray, List.getElem_cons_zero, List.getElem_cons_succ, Act.put, List.setIfInBounds_toArray, List.set_cons_zero, List.set_cons_succ])
          refine wpTreeIn_pure (v := ?_) rfl (by rfl) ?_ (fun _ => by rfl) (fun _ _ _ h => h) ?_
          rotate_left
          focus (intro w'; (try simp only [List.getElem_toArray, List.getElem_cons_zero, List.getElem_cons_succ]); go_simp; try with_reducible rfl)
          (try simp only [List.getElem_toArray, List.getElem_cons_zero, List.getElem_cons_succ, Act.put, List.setIfInBounds_toArray, List.set_cons_zero, List.set_cons_succ])
          refine wpTreeIn_do rfl (by rfl) ?_
          (try simp only [List.getElem_toArray, List.getElem_cons_zero, List.getElem_cons_succ])
          have hr11 := set_cells hrq (o := 3) (.int .i64 o.face)
          obtain ⟨x0, x1, x2, x3, x4⟩ := cells5 hr11
          have g4 := frozen_row hr11 4
          go_simp
          have hr12 := set_cells hr11 (o := 4) (.int .i64 o.number)
          (try simp only [List.getElem_toArray, List.getElem_cons_zero, List.getElem_cons_succ, Act.put, List.setIfInBounds_toArray, List.set_cons_zero, List.set_cons_succ])
          (try unfold wpTreeIn)
          have hr11 := hr12
          obtain ⟨wT, hwT⟩ : ∃ z, z = (wq.setCell ⟨b8, 3, none⟩ (.int .i64 o.face)).setCell ⟨b8, 4, none⟩ (.int .i64 o.number) := ⟨_, rfl⟩
          rw [← hwT] at hr12 ⊢
          have hST : Below V.heap.size V wT := by rw [hwT]; exact (hSq.setCell (p := ⟨b8, 3, none⟩) hb8 _).setCell (p := ⟨b8, 4, none⟩) hb8 _
          have hvT : Hid (wT.heap[wB.heap.size + 1]? = some (.cells #[v] 30 (0, 0))) := (hST.block _ l6).trans hv6
          have hrT : Hid (wT.heap[b8]? = some (.cells #[.int .i64 e.face, .int .i64 e.number, .int .i64 kd, .int .i64 o.face, .int .i64 o.number] 35 (0, 0))) := hr12
          replace hwT := Lib.hid hwT
          clear y0 y1 y2 y3 y4 x0 x1 x2 x3 x4 g3 g4 hr11 hr12
          have hS10 : Below V.heap.size V (wT.alloc (.cells #[.int .i64 e.face, .int .i64 e.number, .int .i64 kd, .int .i64 o.face, .int .i64 o.number] 35)) := hST.alloc hST.size _
          have hr10 : Hid ((wT.alloc (.cells #[.int .i64 e.face, .int .i64 e.number, .int .i64 kd, .int .i64 o.face, .int .i64 o.number] 35)).heap[wT.heap.size]? = some (.cells (rowCells ⟨e.face, e.number, kd, o.face, o.number⟩) 35 (0, 0))) := heap_new _ _ _ rfl
          obtain ⟨y0, y1, y2, y3, y4⟩ := cells5 hrT.out
          have k6 := cells1 hvT.out
          gi_wp2_with (gi_at_builtin; refine wpListIn_append_own _ rfl _ _ 30 rfl (wS.heap.size + 2) 35 i0 _ 5 40 Tryd.underlying30 hi hz0 hz1 hz2 rfl (by decide) v _ _ rfl (hOw.out _ hS10) ⟨wT.heap.size, 0, none⟩ 1 1 (encRow ⟨e.face, e.number, kd, o.face, o.number⟩) rfl rfl (rowR_news hr10.out) (rowR_one _) (by simp only [maxLen]; omega) (by omega) (Nat.le_trans hm0 hS10.size) ?_; intro v' w1' hown' hgrow' _; obtain ⟨g', cap', rfl⟩ := ownsRow_succ hown'; obtain ⟨hfA, hfB⟩ := hfin.out ⟨e.face, e.number, kd, o.face, o.number⟩ hE.out.symm _ _ _ hS10 hown' hgrow'; have h6 := cells1 hfB; have f6 := frozen_row hfB 0)
          exact hfA
    case done =>
      rintro D xs V hD hxs hI hK
      obtain ⟨v0, hv0, _⟩ := hI.o
      have hBk := cells1 hv0
      have hG := hI.grown (grownBy_putObj' V D (.deferred none)) hBS1.size (fun r e => by cases e; exact ⟨hD, _, hK, rfl⟩)
      rw [show (valsE xs).map (rowE fs) = rowsL fs by unfold rowsL; rw [show valsE xs = edgesL fs from hxs]] at hG
      obtain ⟨v, hv, hown⟩ := hG.o
      have e0 := (grown_cells (grownBy_putObj' V D (.deferred none)) (fun r e => by cases e; exact ⟨_, hK, rfl⟩) hv0).symm.trans hv
      obtain rfl : v0 = v := by simpa using e0
      obtain ⟨A, c, hvA, hfl⟩ := own_rows hown (by unfold rowsL; rw [List.length_map]; exact hfew)
      have hfl' := Lib.hid hfl
      have hz2 := hBB.trans (hG.y.mono hsB)
      subst hvA
      clear hfl e0 hv
      replace hG := Lib.hid hG
      gi_wp2
      refine ⟨by simp, .inl ⟨_, _, rfl, run_takeDeferred hK, ?_⟩⟩
      refine ⟨.tuple #[.slice A (rowsL fs).length c, .int .i64 0], ?_, hz2, ?_⟩
      · simp [results, Tryd.f35, go_sem]
      · first | exact ⟨A, c, rfl, hfl'.out⟩ | exact ⟨A, ⟨c, rfl⟩, hfl'.out⟩ | exact ⟨c, A, rfl, hfl'.out⟩
  · replace hz := Lib.hid hz
    have hz' := hz.out
    have c50' : Hid (∀ V, Below w.heap.size w V → Calls Tryd.prog 50 #[.agg #[.slice fa fs.length fc, .slice oa os.length oc]] V fun e w' => Below V.heap.size V w' ∧ e = .returned (.tuple #[.pointer none, .int .i64 ce])) := fun V hV => by
      refine (c50 V hV).mono ?_
      rintro e w' ⟨h1, h2 | h2⟩
      · exact ⟨h1, h2.2⟩
      · exact absurd h2.1 hz'
    clear c50 hok
    gi_wp2_with (refine ⟨trivial, ?_⟩; gi_at_call 50; refine (callsIn_wide.2 (c50'.out _ hB0.out)).mono ?_; rintro e w1 ⟨hb1, rfl⟩)
    refine ⟨.tuple #[.slice none 0 0, .int .i64 ce], ?_, (hB0.out.trans (hb1.mono hB0.out.size)).alloc (Nat.le_trans hB0.out.size hb1.size) _, .inl ⟨hz.out, rfl⟩⟩
    simp [results, Tryd.f35, go_sem]
end Go.Proofs.YthojfhdenfhjfaaDoor
end
section
namespace Go.Proofs.YthojfhdenfhjfaaDoor
open Go.RowKit Go.Lib Go.Shelf

theorem gcd_step (x y : Int) : Int.gcd y (x.tmod y) = Int.gcd x y := by
  unfold Int.gcd
  rw [Int.natAbs_tmod, Nat.gcd_comm y.natAbs, ← Nat.gcd_rec, Nat.gcd_comm]
set_option maxHeartbeats 1000000 in
set_option maxRecDepth 100000 in
theorem divisor_any (n d : Int) (w : World) (hn : -1000000000 ≤ n ∧ n ≤ 1000000000) (hd : -1000000000 ≤ d ∧ d ≤ 1000000000) : Calls Tryd.prog 54 #[.int .i64 n, .int .i64 d] w fun e w' => e = .returned (.int .i64 (gcdI n d)) ∧ Below w.heap.size w w' := by
  go_enter Tryd.func54, Tryd.ntmps54
  go_wp2
  go_loopw [0, 1] (fun x y wr => ∃ a b : Int, x = .int .i64 a ∧ y = .int .i64 b ∧ Hid (Int.gcd a b = Int.gcd n d) ∧ (-1000000000 ≤ a ∧ a ≤ 1000000000) ∧ (-1000000000 ≤ b ∧ b ≤ 1000000000) ∧ Hid (Below w.heap.size w wr)) (fun _ y _ => (intOf y).natAbs)
  case atStart => exact ⟨n, d, rfl, rfl, rfl, hn, hd, Below.refl _ _⟩
  case round =>
    obtain ⟨a, b, rfl, rfl, hg, ha, hb, hbw⟩ := hrel
    by_cases hz : b = 0
    · subst hz
      have hw : IntKind.i64.wrap (-a) = -a := IntWalk.i64_in _ (by omega)
      have hG : Hid (gcdI n d = max a (-a)) := by
        unfold Hid gcdI
        rw [← hg.out]
        unfold Int.gcd
        simp
        omega
      go_wp2
      go_ret
      exact ⟨by rw [hG.out]; rfl, hbw.out⟩
    · have hm : (a.tmod b).natAbs < b.natAbs := by rw [Int.natAbs_tmod]; exact Nat.mod_lt _ (by omega)
      have hg2 : Hid (Int.gcd b (a.tmod b) = Int.gcd n d) := by unfold Hid; rw [gcd_step]; exact hg.out
      obtain ⟨c, hc⟩ : ∃ c, c = a.tmod b := ⟨_, rfl⟩
      rw [← hc] at hm hg2
      have hcb : -1000000000 ≤ c ∧ c ≤ 1000000000 := by omega
      have hc' : a.tmod b = c := hc.symm
      have hw : IntKind.i64.wrap c = c := IntWalk.i64_in _ (by omega)
      replace hc := Lib.hid hc
      go_wp2
      refine wp_region_tree (fun V => Below wr.heap.size wr V) (.pure 0 (.pure 1 (.pure 2 (.pure 3 (.pure 4 (.pure 5 .done)))))) [] (by kernel_rfl) (by kernel_rfl) ((Below.refl _ _).drew) ?_
      refine wpTree_pure (v := ?_) rfl (by rfl) ?_ (fun _ _ _ h => h) ?_
      rotate_left
      focus (intro w'; (try simp only [List.getElem_toArray, List.getElem_cons_zero, List.getElem_cons_succ]); go_simp; try with_reducible rfl)
      (try simp only [List.getElem_toArray, List.getElem_cons_zero, List.getElem_cons_succ, Act.put, List.setIfInBounds_toArray, List.set_cons_zero, List.set_cons_succ])
      refine wpTree_pure (v := ?_) rfl (by rfl) ?_ (fun _ _ _ h => h) ?_
      rotate_left
      focus (intro w'; (try simp only [List.getElem_toArray, List.getElem_cons_zero, List.getElem_cons_succ]); go_simp; try with_reducible rfl)
      (try simp only [List.getElem_toArray, List.getElem_cons_zero, List.getElem_cons_succ, Act.put, List.setIfInBounds_toArray, List.set_cons_zero, List.set_cons_succ])
      refine wpTree_pure (v := ?_) rfl (by rfl) ?_ (fun _ _ _ h => h) ?_
      rotate_left
      focus (intro w'; (try simp only [List.getElem_toArray, List.getElem_cons_zero, List.getElem_cons_succ]); go_simp; try with_reducible rfl)
      (try simp only [List.getElem_toArray, List.getElem_cons_zero, List.getElem_cons_succ, Act.put, List.setIfInBounds_toArray, List.set_cons_zero, List.set_cons_succ])
      refine wpTree_pure (v := ?_) rfl (by rfl) ?_ (fun _ _ _ h => h) ?_
      rotate_left
      focus (intro w'; (try simp only [List.getElem_toArray, List.getElem_cons_zero, List.getElem_cons_succ]); go_simp; try with_reducible rfl)
      (try simp only [List.getElem_toArray, List.getElem_cons_zero, List.getElem_cons_succ, Act.put, List.setIfInBounds_toArray, List.set_cons_zero, List.set_cons_succ])
      refine wpTree_pure (v := ?_) rfl (by rfl) ?_ (fun _ _ _ h => h) ?_
      rotate_left
      focus (intro w'; (try simp only [List.getElem_toArray, List.getElem_cons_zero, List.getElem_cons_succ]); go_simp; try with_reducible rfl)
      (try simp only [List.getElem_toArray, List.getElem_cons_zero, List.getElem_cons_succ, Act.put, List.setIfInBounds_toArray, List.set_cons_zero, List.set_cons_succ])
      refine wpTree_pure (v := ?_) rfl (by rfl) ?_ (fun _ _ _ h => h) ?_
      rotate_left
      focus (intro w'; (try simp only [List.getElem_toArray, List.getElem_cons_zero, List.getElem_cons_succ]); go_simp; try with_reducible rfl)
      (try simp only [List.getElem_toArray, List.getElem_cons_zero, List.getElem_cons_succ, Act.put, List.setIfInBounds_toArray, List.set_cons_zero, List.set_cons_succ])
      (try unfold wpTree)
      go_wp2
      exact ⟨⟨b, c, rfl, rfl, hg2.out, hb, hcb, hbw.out.drew⟩, by simp [intOf]; omega⟩
theorem ratN_tdiv {n d : Int} : n.tdiv (gcdI n d) = ratN n d := Int.tdiv_eq_ediv_of_dvd (by unfold gcdI; exact Int.gcd_dvd_left ..)
theorem ratD_tdiv {n d : Int} : d.tdiv (gcdI n d) = ratD n d := Int.tdiv_eq_ediv_of_dvd (by unfold gcdI; exact Int.gcd_dvd_right ..)
theorem ratN_in {n d : Int} (hd : 0 < d) (h : -1000000000 ≤ n ∧ n ≤ 1000000000) : -1000000000 ≤ ratN n d ∧ ratN n d ≤ 1000000000 := by
  have hm := ratN_mul (n := n) hd
  have hg := gcd_pos (n := n) hd
  have e1 : (ratN n d).natAbs ≤ n.natAbs := by
    have h2 : (gcdI n d).natAbs * (ratN n d).natAbs = n.natAbs := by rw [← Int.natAbs_mul, hm]
    have h3 : 1 ≤ (gcdI n d).natAbs := by omega
    have := Nat.mul_le_mul_right (ratN n d).natAbs h3
    omega
  omega
theorem ratD_in {n d : Int} (hd : 0 < d) (h : d ≤ 1000000000) : -1000000000 ≤ ratD n d ∧ ratD n d ≤ 1000000000 := by
  have hm := ratD_mul (n := n) hd
  have hg := gcd_pos (n := n) hd
  have e1 : (ratD n d).natAbs ≤ d.natAbs := by
    have h2 : (gcdI n d).natAbs * (ratD n d).natAbs = d.natAbs := by rw [← Int.natAbs_mul, hm]
    have h3 : 1 ≤ (gcdI n d).natAbs := by omega
    have := Nat.mul_le_mul_right (ratD n d).natAbs h3
    omega
  omega
/-- What Height hands back. -/
def heightE (r : Roof) (i : Int) (p : Pnt) : Int := if checkR r ≠ 0 then checkR r else if inB i 0 ((r.faces.length : Int) - 1) = false then 7 else if inPlan p = false then 1 else 0
def heightN (r : Roof) (i : Int) (p : Pnt) : Int × Int := if heightE r i p ≠ 0 then (0, 0) else (ratN (highF (r.faces.getD i.toNat default) p) (r.faces.getD i.toNat default).run, ratD (highF (r.faces.getD i.toNat default) p) (r.faces.getD i.toNat default).run)
abbrev ratVal (q : Int × Int) : Value := .agg #[.int .i64 q.1, .int .i64 q.2]
structure HtX (w : World) (v0 v1 : Value) (p : Pnt) (V : World) : Prop where
  b : Below w.heap.size w V
  r : V.heap[w.heap.size]? = some (.cells #[v0, v1] 25 (0, 0))
  p : V.heap[w.heap.size + 1]? = some (.cells #[.int .i64 p.x, .int .i64 p.y] 39 (0, 0))
  z : V.heap[w.heap.size + 1 + 1]? = some (.cells #[.int .i64 0, .int .i64 0] 47 (0, 0))
theorem HtX.later {w V V' : World} {v0 v1 : Value} {p : Pnt} (h : HtX w v0 v1 p V) (hb : Below V.heap.size V V') : HtX w v0 v1 p V' :=
  ⟨h.b.trans (hb.mono h.b.size), (hb.block _ (lt_block h.r)).trans h.r, (hb.block _ (lt_block h.p)).trans h.p, (hb.block _ (lt_block h.z)).trans h.z⟩
theorem HtX.make (w : World) (v0 v1 : Value) (p : Pnt) : HtX w v0 v1 p (((w.alloc (.cells #[v0, v1] 25)).alloc (.cells #[.int .i64 p.x, .int .i64 p.y] 39)).alloc (.cells #[.int .i64 0, .int .i64 0] 47)) :=
  ⟨(((Below.refl _ w).alloc (Nat.le_refl _) _).alloc (by simp) _).alloc (by simp; omega) _, heap_old _ _ _ _ (heap_old _ _ _ _ (heap_new _ _ _ rfl)), heap_old _ _ _ _ (heap_new _ _ _ (by simp)), heap_new _ _ _ (by simp)⟩
theorem HtX.ends {w V : World} {v0 v1 : Value} {p : Pnt} (h : HtX w v0 v1 p V) (a b : Value) : ((V.setCell ⟨w.heap.size + 1 + 1, 0, none⟩ a).setCell ⟨w.heap.size + 1 + 1, 1, none⟩ b).heap[w.heap.size + 1 + 1]? = some (.cells #[a, b] 47 (0, 0)) ∧ Below w.heap.size w ((V.setCell ⟨w.heap.size + 1 + 1, 0, none⟩ a).setCell ⟨w.heap.size + 1 + 1, 1, none⟩ b) :=
  ⟨set_cells (set_cells h.z a) b, (h.b.setCell (p := ⟨w.heap.size + 1 + 1, 0, none⟩) (by simp; omega) _).setCell (p := ⟨w.heap.size + 1 + 1, 1, none⟩) (by simp; omega) _⟩
set_option maxHeartbeats 4000000 in
set_option maxRecDepth 100000 in
theorem height_any (r : Roof) (i : Int) (p : Pnt) (w : World) (hR : RdRoof w r) (hfa : FaX w) (hlf : r.faces.length ≤ 100000) (hlo : r.opens.length ≤ 100000) :
    Calls Tryd.prog 20 #[roofVal r, .int .i64 i, pntVal p] w fun e w' => e = .returned (.tuple #[ratVal (heightN r i p), .int .i64 (heightE r i p)]) ∧ Below w.heap.size w w' := by
  obtain ⟨ce, hce⟩ : ∃ x, x = checkR r := ⟨_, rfl⟩
  have hok : ce = 0 → OkFs r.faces := fun h => OkFs.of (hce ▸ h)
  have c50 := fun V (hV : Below w.heap.size w V) => built_any r V (hR.below hV) hlf hlo
  have hEE : heightE r i p = if ce ≠ 0 then ce else if inB i 0 ((r.faces.length : Int) - 1) = false then 7 else if inPlan p = false then 1 else 0 := by rw [hce]; rfl
  rw [← hce] at c50
  obtain ⟨er, her⟩ : ∃ x, x = heightE r i p := ⟨_, rfl⟩
  have hNN : heightN r i p = if er ≠ 0 then (0, 0) else (ratN (highF (r.faces.getD i.toNat default) p) (r.faces.getD i.toNat default).run, ratD (highF (r.faces.getD i.toNat default) p) (r.faces.getD i.toNat default).run) := by rw [her]; rfl
  rw [← her] at hEE ⊢
  obtain ⟨nr, hnr⟩ : ∃ x, x = heightN r i p := ⟨_, rfl⟩
  rw [← hnr] at hNN ⊢
  replace hce := Lib.hid hce
  replace her := Lib.hid her
  replace hnr := Lib.hid hnr
  obtain ⟨fs, os, fa, fc, oa, oc⟩ := r
  obtain ⟨hRF, hRO, hcf, hco⟩ := hR
  dsimp only [roofVal] at *
  obtain ⟨ib, hib⟩ : ∃ b, b = inB i 0 ((fs.length : Int) - 1) := ⟨_, rfl⟩
  obtain ⟨pb, hpb⟩ : ∃ b, b = inPlan p := ⟨_, rfl⟩
  rw [← hib, ← hpb] at hEE
  have c51 : Hid (∀ V, Calls Tryd.prog 51 #[.int .i64 i, .int .i64 0, .int .i64 ((fs.length : Int) - 1)] V fun e w' => e = .returned (.bool ib) ∧ V = w') := fun V => by rw [hib]; exact in_any _ _ _ V
  have c52 : Hid (∀ V, Calls Tryd.prog 52 #[pntVal p] V fun e w' => e = .returned (.bool pb) ∧ Below V.heap.size V w') := fun V => by rw [hpb]; exact planned_any p V
  have hwl : IntKind.i64.wrap ((fs.length : Int) - 1) = (fs.length : Int) - 1 := IntWalk.i64_in _ (by omega)
  obtain ⟨W0, hW0⟩ : ∃ W0, W0 = (((w.alloc (.cells #[.slice fa fs.length fc, .slice oa os.length oc] 25)).alloc (.cells #[.int .i64 p.x, .int .i64 p.y] 39)).alloc (.cells #[.int .i64 0, .int .i64 0] 47)) := ⟨_, rfl⟩
  have hX0 : Hid (HtX w (.slice fa fs.length fc) (.slice oa os.length oc) p W0) := by rw [hW0]; exact HtX.make _ _ _ _
  have hEh := Lib.hid hEE
  have hNh := Lib.hid hNN
  clear hEE hNN
  replace hib := Lib.hid hib
  replace hpb := Lib.hid hpb
  go_enter Tryd.func20, Tryd.ntmps20
  go_wp2_with fail
  rw [← hW0]
  replace hW0 := Lib.hid hW0
  by_cases hz : ce = 0
  · subst hz
    have hok' := Lib.hid (hok rfl)
    have c50' : Hid (∀ V, Below w.heap.size w V → Calls Tryd.prog 50 #[.agg #[.slice fa fs.length fc, .slice oa os.length oc]] V fun e w' => Below V.heap.size V w' ∧ ∃ hb mb, e = .returned (.tuple #[.pointer (some ⟨hb, 0, none⟩), .int .i64 0]) ∧ w'.heap[hb]? = some (.cells #[.slice fa fs.length fc, .slice oa os.length oc, .map (some mb)] 156 (0, 0)) ∧ BesX w' mb (edgesL fs)) := fun V hV => by
      refine (c50 V hV).mono ?_
      rintro e w' ⟨h1, h2 | h2⟩
      · exact absurd rfl h2.1
      · exact ⟨h1, h2.2⟩
    clear c50 hok
    go_wp2_with (go_at_call 50; (with_reducible refine (c50'.out _ hX0.out.b).mono ?_); rintro e w1 ⟨hb1, hb, mb, rfl, hhB, hbes⟩; have hX1 := Lib.hid (hX0.out.later hb1); obtain ⟨z0, z1⟩ := cells2 hX1.out.z; have f0 := frozen_row hX1.out.z 0; have f1 := frozen_row hX1.out.z 1; obtain ⟨x0, x1⟩ := cells2 hX1.out.r; obtain ⟨y0, y1⟩ := cells2 hX1.out.p)
    cases ib with
    | false =>
      have hE2 : Hid (er = 7) := by unfold Hid; rw [hEh.out]; simp
      have hN2 : Hid (nr = (0, 0)) := by unfold Hid; rw [hNh.out, hE2.out]; simp
      go_wp2_with (go_at_call 51; (with_reducible refine (c51.out _).mono ?_); rintro e w9 ⟨rfl, rfl⟩)
      obtain ⟨hq5, hq6⟩ := HtX.ends hX1.out (.int .i64 (0)) (.int .i64 (0))
      obtain ⟨wz, hwz⟩ : ∃ z, z = ((w1.setCell ⟨w.heap.size + 1 + 1, 0, none⟩ (.int .i64 (0))).setCell ⟨w.heap.size + 1 + 1, 1, none⟩ (.int .i64 (0))) := ⟨_, rfl⟩
      rw [← hwz] at hq5 hq6 ⊢
      obtain ⟨r0, r1⟩ := cells2 hq5
      refine bodyPost_ret (v := .tuple #[.agg #[.int .i64 (0), .int .i64 (0)], .int .i64 (7)]) (by simp [results, Tryd.results20, go_sem, r0, r1]) rfl ⟨by rw [hN2.out, hE2.out], hq6⟩
    | true =>
      have hin := hib.out.symm
      unfold inB at hin
      simp only [Bool.and_eq_true, decide_eq_true_eq] at hin
      obtain ⟨k, rfl⟩ : ∃ k : Nat, i = (k : Int) := ⟨i.toNat, by omega⟩
      have hkl : k < fs.length := by omega
      replace hin := Lib.hid hin
      cases pb with
      | false =>
        have hE2 : Hid (er = 1) := by unfold Hid; rw [hEh.out]; simp
        have hN2 : Hid (nr = (0, 0)) := by unfold Hid; rw [hNh.out, hE2.out]; simp
        go_wp2_with (first | (go_at_call 51; (with_reducible refine (c51.out _).mono ?_); rintro e w9 ⟨rfl, rfl⟩) | (go_at_call 52; (with_reducible refine (c52.out _).mono ?_); rintro e w2 ⟨rfl, hb2⟩; clear z0 z1 f0 f1 x0 x1 y0 y1; have hX2 := Lib.hid (hX1.out.later hb2); obtain ⟨z0, z1⟩ := cells2 hX2.out.z; have f0 := frozen_row hX2.out.z 0; have f1 := frozen_row hX2.out.z 1))
        obtain ⟨hq5, hq6⟩ := HtX.ends hX2.out (.int .i64 (0)) (.int .i64 (0))
        obtain ⟨wz, hwz⟩ : ∃ z, z = ((w2.setCell ⟨w.heap.size + 1 + 1, 0, none⟩ (.int .i64 (0))).setCell ⟨w.heap.size + 1 + 1, 1, none⟩ (.int .i64 (0))) := ⟨_, rfl⟩
        rw [← hwz] at hq5 hq6 ⊢
        obtain ⟨r0, r1⟩ := cells2 hq5
        refine bodyPost_ret (v := .tuple #[.agg #[.int .i64 (0), .int .i64 (0)], .int .i64 (1)]) (by simp [results, Tryd.results20, go_sem, r0, r1]) rfl ⟨by rw [hN2.out, hE2.out], hq6⟩
      | true =>
        have hE2 : Hid (er = 0) := by unfold Hid; rw [hEh.out]; simp
        have hps : SmP p 1000000 := inPlan_small hpb.out.symm
        have hgk := hok'.out.arg k hkl
        obtain ⟨f, hf⟩ : ∃ f, f = fs.getD k default := ⟨_, rfl⟩
        rw [← hf] at hgk
        have hrn := arg_run hgk
        have hhi := high_in hgk hps
        have hN2 : Hid (nr = (ratN (highF f p) f.run, ratD (highF f p) f.run)) := by unfold Hid; rw [hNh.out, hE2.out, hf]; simp
        obtain ⟨hv, hhv⟩ : ∃ x, x = highF f p := ⟨_, rfl⟩
        rw [← hhv] at hhi hN2
        have c53 : Hid (∀ V, HsX V hb mb fs fa fc (.slice oa os.length oc) → Calls Tryd.prog 53 #[.pointer (some ⟨hb, 0, none⟩), .int .i64 (k : Int), pntVal p] V fun e w' => e = .returned (.int .i64 hv) ∧ Below V.heap.size V w') := fun V h => by rw [hhv, hf]; exact high_any hb mb fs fa fc _ k p V h hkl (by rw [← hf]; exact hgk) hps
        have c54 : Hid (∀ V, Calls Tryd.prog 54 #[.int .i64 hv, .int .i64 f.run] V fun e w' => e = .returned (.int .i64 (gcdI hv f.run)) ∧ Below V.heap.size V w') := fun V => divisor_any hv f.run V (by omega) (by omega)
        have hgp : 0 < gcdI hv f.run := gcd_pos (by omega)
        have t1 : hv.tdiv (gcdI hv f.run) = ratN hv f.run := ratN_tdiv
        have t2 : f.run.tdiv (gcdI hv f.run) = ratD hv f.run := ratD_tdiv
        have q1 := ratN_in (n := hv) (d := f.run) (by omega) (by omega)
        have q2 := ratD_in (n := hv) (d := f.run) (by omega) (by omega)
        obtain ⟨g, hg⟩ : ∃ x, x = gcdI hv f.run := ⟨_, rfl⟩
        obtain ⟨ra, hra⟩ : ∃ x, x = ratN hv f.run := ⟨_, rfl⟩
        obtain ⟨rb, hrb⟩ : ∃ x, x = ratD hv f.run := ⟨_, rfl⟩
        rw [← hg, ← hra] at t1
        rw [← hg, ← hrb] at t2
        rw [← hra] at q1
        rw [← hrb] at q2
        rw [← hg] at c54 hgp
        rw [← hra, ← hrb] at hN2
        have v1 : IntKind.i64.wrap ra = ra := IntWalk.i64_in _ (by omega)
        have v2 : IntKind.i64.wrap rb = rb := IntWalk.i64_in _ (by omega)
        have hgne : ¬ g = 0 := by omega
        replace hg := Lib.hid hg
        replace hra := Lib.hid hra
        replace hrb := Lib.hid hrb
        replace hhv := Lib.hid hhv
        go_wp2_with (first | (go_at_call 51; (with_reducible refine (c51.out _).mono ?_); rintro e w9 ⟨rfl, rfl⟩) | (go_at_call 52; (with_reducible refine (c52.out _).mono ?_); rintro e w2 ⟨rfl, hb2⟩; clear z0 z1 f0 f1 x0 x1 y0 y1; have hX2 := Lib.hid (hX1.out.later hb2)))
        have hBw2 := hX2.out.b
        have hH2 : HsX w2 hb mb fs fa fc (.slice oa os.length oc) := ⟨(hb2.block _ (lt_block hhB)).trans hhB, hRF.below hBw2, hfa.later hBw2⟩
        obtain ⟨ad, hA, _⟩ := hH2.fx.at7 hkl
        subst hA
        have hcl : Hid (∀ V, Below w2.heap.size w2 V → (V.cell? ⟨w.heap.size, 0, none⟩ = some (.slice (some ad) fs.length fc)) ∧ (V.cell? ⟨w.heap.size + 1, 0, none⟩ = some (.int .i64 p.x) ∧ V.cell? ⟨w.heap.size + 1, 1, none⟩ = some (.int .i64 p.y)) ∧ V.cell? ⟨(ad.add (k * 7)).block, (ad.add (k * 7)).off + 5, none⟩ = some (.int .i64 f.run)) := fun V h => by
          have hX := hX2.out.later h
          obtain ⟨a1, e1, _, _, _, _, _, r1, _⟩ := (hH2.later h).fx.at7 hkl
          cases e1
          rw [← hf] at r1
          exact ⟨(cells2 hX.r).1, cells2 hX.p, r1⟩
        have hSd : Below w2.heap.size w2 w2.drew := (Below.refl _ _).drew
        replace hf := Lib.hid hf
        refine wp_region_tree (fun V => Below w2.heap.size w2 V) (.pure 0 (.pure 1 (.read 2 (.pure 4 (.read 5 (.pure 6 (.pure 7 (.pure 8 (.read 9 (.one 3 (.pure 10 (.pure 11 .done)))))))))))) [] (by kernel_rfl) (by kernel_rfl) hSd ?_
        refine wpTree_pure (v := ?_) rfl (by rfl) ?_ (fun _ _ _ h => h) ?_
        rotate_left
        focus (intro w'; (try simp only [List.getElem_toArray, List.getElem_cons_zero, List.getElem_cons_succ]); go_simp; try with_reducible rfl)
        (try simp only [List.getElem_toArray, List.getElem_cons_zero, List.getElem_cons_succ, Act.put, List.setIfInBounds_toArray, List.set_cons_zero, List.set_cons_succ])
        refine wpTree_pure (v := ?_) rfl (by rfl) ?_ (fun _ _ _ h => h) ?_
        rotate_left
        focus (intro w'; (try simp only [List.getElem_toArray, List.getElem_cons_zero, List.getElem_cons_succ]); go_simp; try with_reducible rfl)
        (try simp only [List.getElem_toArray, List.getElem_cons_zero, List.getElem_cons_succ, Act.put, List.setIfInBounds_toArray, List.set_cons_zero, List.set_cons_succ])
        refine wpTree_take (v := ?_) rfl (by rfl) ?_ (fun _ _ _ h => h) ?_
        rotate_left
        focus (intro w' hSw; obtain ⟨x0, ⟨y0, y1⟩, r5⟩ := hcl.out _ hSw; clear hSw; (try simp only [List.getElem_toArray, List.getElem_cons_zero, List.getElem_cons_succ]); go_simp; try with_reducible rfl)
        (try simp only [List.getElem_toArray, List.getElem_cons_zero, List.getElem_cons_succ, Act.put, List.setIfInBounds_toArray, List.set_cons_zero, List.set_cons_succ])
        refine wpTree_pure (v := ?_) rfl (by rfl) ?_ (fun _ _ _ h => h) ?_
        rotate_left
        focus (intro w'; (try simp only [List.getElem_toArray, List.getElem_cons_zero, List.getElem_cons_succ]); go_simp; try with_reducible rfl)
        (try simp only [List.getElem_toArray, List.getElem_cons_zero, List.getElem_cons_succ, Act.put, List.setIfInBounds_toArray, List.set_cons_zero, List.set_cons_succ])
        refine wpTree_take (v := ?_) rfl (by rfl) ?_ (fun _ _ _ h => h) ?_
        rotate_left
        focus (intro w' hSw; obtain ⟨x0, ⟨y0, y1⟩, r5⟩ := hcl.out _ hSw; clear hSw; (try simp only [List.getElem_toArray, List.getElem_cons_zero, List.getElem_cons_succ]); go_simp; try with_reducible rfl)
        (try simp only [List.getElem_toArray, List.getElem_cons_zero, List.getElem_cons_succ, Act.put, List.setIfInBounds_toArray, List.set_cons_zero, List.set_cons_succ])
        refine wpTree_pure (v := ?_) rfl (by rfl) ?_ (fun _ _ _ h => h) ?_
        rotate_left
        focus (intro w'; (try simp only [List.getElem_toArray, List.getElem_cons_zero, List.getElem_cons_succ]); go_simp; try with_reducible rfl)
        (try simp only [List.getElem_toArray, List.getElem_cons_zero, List.getElem_cons_succ, Act.put, List.setIfInBounds_toArray, List.set_cons_zero, List.set_cons_succ])
        refine wpTree_pure (v := ?_) rfl (by rfl) ?_ (fun _ _ _ h => h) ?_
        rotate_left
        focus (intro w'; (try simp only [List.getElem_toArray, List.getElem_cons_zero, List.getElem_cons_succ]); go_simp; try with_reducible rfl)
        (try simp only [List.getElem_toArray, List.getElem_cons_zero, List.getElem_cons_succ, Act.put, List.setIfInBounds_toArray, List.set_cons_zero, List.set_cons_succ])
        refine wpTree_pure (v := ?_) rfl (by rfl) ?_ (fun _ _ _ h => h) ?_
        rotate_left
        focus (intro w'; (try simp only [List.getElem_toArray, List.getElem_cons_zero, List.getElem_cons_succ]); go_simp; try with_reducible rfl)
        (try simp only [List.getElem_toArray, List.getElem_cons_zero, List.getElem_cons_succ, Act.put, List.setIfInBounds_toArray, List.set_cons_zero, List.set_cons_succ])
        refine wpTree_take (v := ?_) rfl (by rfl) ?_ (fun _ _ _ h => h) ?_
        rotate_left
        focus (intro w' hSw; obtain ⟨x0, ⟨y0, y1⟩, r5⟩ := hcl.out _ hSw; clear hSw; (try simp only [List.getElem_toArray, List.getElem_cons_zero, List.getElem_cons_succ]); go_simp; try with_reducible rfl)
        (try simp only [List.getElem_toArray, List.getElem_cons_zero, List.getElem_cons_succ, Act.put, List.setIfInBounds_toArray, List.set_cons_zero, List.set_cons_succ])
        refine wpTree_do rfl (by rfl) ?_
        (try simp only [List.getElem_toArray, List.getElem_cons_zero, List.getElem_cons_succ])
        go_simp
        go_at_call 53
        (with_reducible refine (c53.out _ (hH2.later hSd)).mono ?_)
        rintro e w3 ⟨rfl, hb3⟩
        have hSc := hSd.trans (hb3.mono hSd.size)
        refine ⟨by intros; first | exact hSc | simpa using hSc, ?_⟩
        (try simp only [List.getElem_toArray, List.getElem_cons_zero, List.getElem_cons_succ, Act.put, List.setIfInBounds_toArray, List.set_cons_zero, List.set_cons_succ])
        refine wpTree_pure (v := ?_) rfl (by rfl) ?_ (fun _ _ _ h => h) ?_
        rotate_left
        focus (intro w'; (try simp only [List.getElem_toArray, List.getElem_cons_zero, List.getElem_cons_succ]); go_simp; try with_reducible rfl)
        (try simp only [List.getElem_toArray, List.getElem_cons_zero, List.getElem_cons_succ, Act.put, List.setIfInBounds_toArray, List.set_cons_zero, List.set_cons_succ])
        refine wpTree_pure (v := ?_) rfl (by rfl) ?_ (fun _ _ _ h => h) ?_
        rotate_left
        focus (intro w'; (try simp only [List.getElem_toArray, List.getElem_cons_zero, List.getElem_cons_succ]); go_simp; try with_reducible rfl)
        (try simp only [List.getElem_toArray, List.getElem_cons_zero, List.getElem_cons_succ, Act.put, List.setIfInBounds_toArray, List.set_cons_zero, List.set_cons_succ])
        (try unfold wpTree)
        go_wp2_with (go_at_call 54; (with_reducible refine (c54.out _).mono ?_); rintro e w4 ⟨rfl, hb4⟩)
        have hX4 := hX2.out.later (hSc.trans (hb4.mono hSc.size))
        obtain ⟨w5, hw5⟩ : ∃ z, z = w4.drew := ⟨_, rfl⟩
        have hX5 : HtX w (.slice (some ad) fs.length fc) (.slice oa os.length oc) p w5 := by rw [hw5]; exact hX4.later (Below.refl _ _).drew
        refine wp_region_tree (fun _ => True) (.pure 0 (.pure 1 (.pure 2 (.pure 3 (.pure 4 (.pure 5 (.pure 6 (.one 7 (.pure 8 .done))))))))) [] (by kernel_rfl) (by kernel_rfl) trivial ?_
        rw [← hw5]
        replace hw5 := Lib.hid hw5
        refine wpTree_pure (v := ?_) rfl (by rfl) ?_ (fun _ _ _ h => h) ?_
        rotate_left
        focus (intro w'; (try simp only [List.getElem_toArray, List.getElem_cons_zero, List.getElem_cons_succ]); go_simp; try with_reducible rfl)
        (try simp only [List.getElem_toArray, List.getElem_cons_zero, List.getElem_cons_succ, Act.put, List.setIfInBounds_toArray, List.set_cons_zero, List.set_cons_succ])
        refine wpTree_pure (v := ?_) rfl (by rfl) ?_ (fun _ _ _ h => h) ?_
        rotate_left
        focus (intro w'; (try simp only [List.getElem_toArray, List.getElem_cons_zero, List.getElem_cons_succ]); go_simp; try with_reducible rfl)
        (try simp only [List.getElem_toArray, List.getElem_cons_zero, List.getElem_cons_succ, Act.put, List.setIfInBounds_toArray, List.set_cons_zero, List.set_cons_succ])
        refine wpTree_pure (v := ?_) rfl (by rfl) ?_ (fun _ _ _ h => h) ?_
        rotate_left
        focus (intro w'; (try simp only [List.getElem_toArray, List.getElem_cons_zero, List.getElem_cons_succ]); go_simp; try with_reducible rfl)
        (try simp only [List.getElem_toArray, List.getElem_cons_zero, List.getElem_cons_succ, Act.put, List.setIfInBounds_toArray, List.set_cons_zero, List.set_cons_succ])
        refine wpTree_pure (v := ?_) rfl (by rfl) ?_ (fun _ _ _ h => h) ?_
        rotate_left
        focus (intro w'; (try simp only [List.getElem_toArray, List.getElem_cons_zero, List.getElem_cons_succ]); go_simp; try with_reducible rfl)
        (try simp only [List.getElem_toArray, List.getElem_cons_zero, List.getElem_cons_succ, Act.put, List.setIfInBounds_toArray, List.set_cons_zero, List.set_cons_succ])
        refine wpTree_pure (v := ?_) rfl (by rfl) ?_ (fun _ _ _ h => h) ?_
        rotate_left
        focus (intro w'; (try simp only [List.getElem_toArray, List.getElem_cons_zero, List.getElem_cons_succ]); go_simp; try with_reducible rfl)
        (try simp only [List.getElem_toArray, List.getElem_cons_zero, List.getElem_cons_succ, Act.put, List.setIfInBounds_toArray, List.set_cons_zero, List.set_cons_succ])
        refine wpTree_pure (v := ?_) rfl (by rfl) ?_ (fun _ _ _ h => h) ?_
        rotate_left
        focus (intro w'; (try simp only [List.getElem_toArray, List.getElem_cons_zero, List.getElem_cons_succ]); go_simp; try with_reducible rfl)
        (try simp only [List.getElem_toArray, List.getElem_cons_zero, List.getElem_cons_succ, Act.put, List.setIfInBounds_toArray, List.set_cons_zero, List.set_cons_succ])
        refine wpTree_pure (v := ?_) rfl (by rfl) ?_ (fun _ _ _ h => h) ?_
        rotate_left
        focus (intro w'; (try simp only [List.getElem_toArray, List.getElem_cons_zero, List.getElem_cons_succ]); go_simp; try with_reducible rfl)
        (try simp only [List.getElem_toArray, List.getElem_cons_zero, List.getElem_cons_succ, Act.put, List.setIfInBounds_toArray, List.set_cons_zero, List.set_cons_succ])
        refine wpTree_do rfl (by rfl) ?_
        (try simp only [List.getElem_toArray, List.getElem_cons_zero, List.getElem_cons_succ])
        obtain ⟨z0, z1⟩ := cells2 hX5.z
        have f0 := frozen_row hX5.z 0
        have f1 := frozen_row hX5.z 1
        go_simp
        try refine ⟨by intros; trivial, ?_⟩
        (try simp only [List.getElem_toArray, List.getElem_cons_zero, List.getElem_cons_succ, Act.put, List.setIfInBounds_toArray, List.set_cons_zero, List.set_cons_succ])
        refine wpTree_pure (v := ?_) rfl (by rfl) ?_ (fun _ _ _ h => h) ?_
        rotate_left
        focus (intro w'; (try simp only [List.getElem_toArray, List.getElem_cons_zero, List.getElem_cons_succ]); go_simp; try with_reducible rfl)
        (try simp only [List.getElem_toArray, List.getElem_cons_zero, List.getElem_cons_succ, Act.put, List.setIfInBounds_toArray, List.set_cons_zero, List.set_cons_succ])
        (try unfold wpTree)
        go_wp2

        obtain ⟨hq5, hq6⟩ := HtX.ends hX5 (.int .i64 (ra)) (.int .i64 (rb))
        obtain ⟨wz, hwz⟩ : ∃ z, z = ((w5.setCell ⟨w.heap.size + 1 + 1, 0, none⟩ (.int .i64 (ra))).setCell ⟨w.heap.size + 1 + 1, 1, none⟩ (.int .i64 (rb))) := ⟨_, rfl⟩
        rw [← hwz] at hq5 hq6 ⊢
        obtain ⟨r0, r1⟩ := cells2 hq5
        refine bodyPost_ret (v := .tuple #[.agg #[.int .i64 (ra), .int .i64 (rb)], .int .i64 (0)]) (by simp [results, Tryd.results20, go_sem, r0, r1]) rfl ⟨by rw [hN2.out, hE2.out], hq6⟩
  · have hz' := Lib.hid hz
    have c50' : Hid (∀ V, Below w.heap.size w V → Calls Tryd.prog 50 #[.agg #[.slice fa fs.length fc, .slice oa os.length oc]] V fun e w' => Below V.heap.size V w' ∧ e = .returned (.tuple #[.pointer none, .int .i64 ce])) := fun V hV => by
      refine (c50 V hV).mono ?_
      rintro e w' ⟨h1, h2 | h2⟩
      · exact ⟨h1, h2.2⟩
      · exact absurd h2.1 hz'.out
    have hE2 : Hid (er = ce) := by unfold Hid; rw [hEh.out, if_pos hz]
    have hN2 : Hid (nr = (0, 0)) := by unfold Hid; rw [hNh.out, if_pos (by rw [hE2.out]; exact hz)]
    clear c50 hok
    go_wp2_with (go_at_call 50; (with_reducible refine (c50'.out _ hX0.out.b).mono ?_); rintro e w1 ⟨hb1, rfl⟩; have hX1 := Lib.hid (hX0.out.later hb1); obtain ⟨z0, z1⟩ := cells2 hX1.out.z; have f0 := frozen_row hX1.out.z 0; have f1 := frozen_row hX1.out.z 1)
    obtain ⟨hq5, hq6⟩ := HtX.ends hX1.out (.int .i64 (0)) (.int .i64 (0))
    obtain ⟨wz, hwz⟩ : ∃ z, z = ((w1.setCell ⟨w.heap.size + 1 + 1, 0, none⟩ (.int .i64 (0))).setCell ⟨w.heap.size + 1 + 1, 1, none⟩ (.int .i64 (0))) := ⟨_, rfl⟩
    rw [← hwz] at hq5 hq6 ⊢
    obtain ⟨r0, r1⟩ := cells2 hq5
    refine bodyPost_ret (v := .tuple #[.agg #[.int .i64 (0), .int .i64 (0)], .int .i64 (ce)]) (by simp [results, Tryd.results20, go_sem, r0, r1]) rfl ⟨by rw [hN2.out, hE2.out], hq6⟩
end Go.Proofs.YthojfhdenfhjfaaDoor
end
section
namespace Go.Proofs.YthojfhdenfhjfaaDoor
open Go.RowKit Go.Lib Go.Shelf

/-- What holds of a roof that Great lets by. -/
def Few (r : Roof) : Prop := r.faces.length ≤ 30 ∧ r.opens.length ≤ 40 ∧ ∀ f ∈ r.faces, f.corners.length ≤ 30
/-- What Great comes to. -/
def GrPost (w : World) (r : Roof) (e : Ending) (w' : World) : Prop := (e = .returned (.bool true) ∧ Below w.heap.size w w') ∨ (e = .returned (.bool false) ∧ Below w.heap.size w w' ∧ Few r)
theorem GrPost.of {w : World} {r : Roof} {b : Bool} {w' : World} (hb : Below w.heap.size w w') (h : Few r) : GrPost w r (.returned (.bool b)) w' := by
  cases b
  · exact .inr ⟨rfl, hb, h⟩
  · exact .inl ⟨rfl, hb⟩
set_option maxHeartbeats 2000000 in
set_option maxRecDepth 100000 in
theorem great_any (r : Roof) (w : World) (hR : RdRoof w r) :
    Calls Tryd.prog 14 #[roofVal r] w (GrPost w r) := by
  obtain ⟨fs, os, fa, fc, oa, oc⟩ := r
  obtain ⟨hRF, hRO, hcf, hco⟩ := hR
  dsimp only [roofVal] at *
  obtain ⟨W0, hW0⟩ : ∃ W0, W0 = w.alloc (.cells #[.slice fa fs.length fc, .slice oa os.length oc] 25) := ⟨_, rfl⟩
  have hB0 : Hid (Below w.heap.size w W0) := by rw [hW0]; exact (Below.refl _ w).alloc (Nat.le_refl _) _
  have hc0 : Hid (W0.heap[w.heap.size]? = some (.cells #[.slice fa fs.length fc, .slice oa os.length oc] 25 (0, 0))) := by rw [hW0]; exact heap_new _ _ _ rfl
  obtain ⟨x0, x1⟩ := cells2 hc0.out
  by_cases h30 : 30 < fs.length
  · have h30' : 30 < (fs.length : Int) := by omega
    go_enter Tryd.func14, Tryd.ntmps14
    go_wp2
    rw [← hW0]
    go_ret
    exact .inl ⟨rfl, hB0.out⟩
  have h30' : ¬ 30 < (fs.length : Int) := by omega
  by_cases h40 : 40 < os.length
  · have h40' : 40 < (os.length : Int) := by omega
    go_enter Tryd.func14, Tryd.ntmps14
    go_wp2
    rw [← hW0]
    go_ret
    exact .inl ⟨rfl, hB0.out⟩
  have h40' : ¬ 40 < (os.length : Int) := by omega
  go_enter Tryd.func14, Tryd.ntmps14
  go_wp2
  rw [← hW0]
  replace hW0 := Lib.hid hW0
  have hnf : Hid (∀ k, k < fs.length → (fs.getD k default).name.size ≤ 140737488351232) := fun k hk => (hRF.2 _ (getD_mem hk)).2.1
  have hno : Hid (∀ k, k < os.length → (os.getD k default).name.size ≤ 140737488351232) := fun k hk => hRO.2 _ (getD_mem hk)
  go_loopw [3, 4] (fun x i wr => ∃ (k : Nat) (s : Int), x = .int .i64 s ∧ i = .int .i64 k ∧ k ≤ fs.length ∧ (0 ≤ s ∧ s ≤ (k : Int) * 140737488351232) ∧ Hid (∀ j, j < k → (fs.getD j default).corners.length ≤ 30) ∧ Hid (wr = W0)) (fun _ i _ => fs.length - (intOf i).toNat)
  case atStart => exact ⟨0, 0, rfl, rfl, Nat.zero_le _, by omega, fun j hj => absurd hj (Nat.not_lt_zero _), rfl⟩
  case round =>
    obtain ⟨k, s, rfl, rfl, hk, hs, hcs, hwr⟩ := hrel
    have ewr := hwr.out.symm
    subst ewr
    by_cases hlt : k < fs.length
    · obtain ⟨ad, hA, p0, p1, p2, p3, p4, p5, p6⟩ := (hRF.below hB0.out).at7 hlt
      subst hA
      have hsz := hnf.out k hlt
      obtain ⟨f, hf⟩ : ∃ f, f = fs.getD k default := ⟨_, rfl⟩
      rw [← hf] at p0 p1 p2 p3 p4 p5 p6 hsz
      have hw1 : IntKind.i64.wrap (s + (f.name.size : Int)) = s + (f.name.size : Int) := IntWalk.i64_in _ (by omega)
      have hw2 : IntKind.i64.wrap ((k : Int) + 1) = (k : Int) + 1 := IntWalk.i64_in _ (by omega)
      by_cases hc : 30 < f.corners.length
      · have hc' : 30 < (f.corners.length : Int) := by omega
        replace hf := Lib.hid hf
        go_wp2
        go_ret
        exact .inl ⟨rfl, hB0.out⟩
      · have hc' : ¬ 30 < (f.corners.length : Int) := by omega
        have hnx : Hid (∀ j, j < k + 1 → (fs.getD j default).corners.length ≤ 30) := fun j hj => by
          rcases Nat.lt_or_ge j k with h1 | h1
          · exact hcs.out j h1
          · obtain rfl : j = k := by omega
            rw [← hf]; omega
        replace hf := Lib.hid hf
        go_wp2
        exact ⟨⟨k + 1, s + (f.name.size : Int), rfl, by go_num, by omega, ⟨by omega, by rw [Int.natCast_add, Int.add_mul]; omega⟩, hnx.out, by unfold Hid; first | rfl | trivial⟩, by simp only [intOf]; omega⟩
    · obtain rfl : k = fs.length := by omega
      have hfew : Hid (fs.length ≤ 30 ∧ os.length ≤ 40 ∧ ∀ f ∈ fs, f.corners.length ≤ 30) := ⟨by omega, by omega, fun f hf => by obtain ⟨j, hj, rfl⟩ := nth_of hf; exact hcs.out j hj⟩
      have hs2 : s ≤ 30 * 140737488351232 := by
        have : (fs.length : Int) * 140737488351232 ≤ 30 * 140737488351232 := Int.mul_le_mul_of_nonneg_right (by omega) (by omega)
        omega
      go_wp2
      go_loopw [3, 5] (fun x i wr => ∃ (k : Nat) (s : Int), x = .int .i64 s ∧ i = .int .i64 k ∧ k ≤ os.length ∧ (0 ≤ s ∧ s ≤ 30 * 140737488351232 + (k : Int) * 140737488351232) ∧ Hid (wr = W0)) (fun _ i _ => os.length - (intOf i).toNat)
      case atStart => exact ⟨0, s, rfl, rfl, Nat.zero_le _, by omega, rfl⟩
      case round =>
        obtain ⟨k, s, rfl, rfl, hk, hs, hwr⟩ := hrel
        have ewr := hwr.out.symm
        subst ewr
        by_cases hlt : k < os.length
        · obtain ⟨ad, hA, p0, p1, p2, p3, p4, p5⟩ := (hRO.below hB0.out).at6 hlt
          subst hA
          have hsz := hno.out k hlt
          obtain ⟨f, hf⟩ : ∃ f, f = os.getD k default := ⟨_, rfl⟩
          rw [← hf] at p0 p1 p2 p3 p4 p5 hsz
          have hw1 : IntKind.i64.wrap (s + (f.name.size : Int)) = s + (f.name.size : Int) := IntWalk.i64_in _ (by omega)
          have hw2 : IntKind.i64.wrap ((k : Int) + 1) = (k : Int) + 1 := IntWalk.i64_in _ (by omega)
          replace hf := Lib.hid hf
          go_wp2
          exact ⟨⟨k + 1, s + (f.name.size : Int), rfl, by go_num, by omega, ⟨by omega, by rw [Int.natCast_add, Int.add_mul]; omega⟩, by unfold Hid; first | rfl | trivial⟩, by simp only [intOf]; omega⟩
        · obtain rfl : k = os.length := by omega
          go_wp2
          go_ret
          exact GrPost.of hB0.out hfew.out
end Go.Proofs.YthojfhdenfhjfaaDoor
end
section
namespace Go.Proofs.YthojfhdenfhjfaaDoor
open Go.RowKit Go.Lib Go.Shelf

/-- The house, its rows at n. -/
def houseAt (n : Nat) : Roof where
  faces := [⟨⟨#[115]⟩, 1, 0, 300, 1, 1, [⟨0, 0⟩, ⟨100, 0⟩, ⟨100, 40⟩, ⟨0, 40⟩], some ⟨n + 1, 0, none⟩, 4⟩,
    ⟨⟨#[110]⟩, 3, 80, 300, 1, 1, [⟨100, 80⟩, ⟨0, 80⟩, ⟨0, 40⟩, ⟨100, 40⟩], some ⟨n + 2, 0, none⟩, 4⟩]
  opens := [⟨⟨#[115, 116, 97, 99, 107]⟩, 0, ⟨10, 10⟩, ⟨20, 30⟩⟩]
  fa := some ⟨n + 3, 0, none⟩
  fc := 2
  oa := some ⟨n + 4, 0, none⟩
  oc := 1
theorem house_rows (n : Nat) : rowsL (houseAt n).faces = [⟨0, 0, 1, -1, -1⟩, ⟨0, 1, 2, -1, -1⟩, ⟨0, 2, 5, 1, 2⟩, ⟨0, 3, 2, -1, -1⟩, ⟨1, 0, 1, -1, -1⟩, ⟨1, 1, 2, -1, -1⟩, ⟨1, 2, 5, 0, 2⟩, ⟨1, 3, 2, -1, -1⟩] := by kernel_rfl
theorem house_height (n : Nat) : heightE (houseAt n) 1 ⟨50, 0⟩ = 0 := by kernel_rfl
theorem house_rat (n : Nat) : heightN (houseAt n) 1 ⟨50, 0⟩ = (380, 1) := by kernel_rfl
theorem house_check (n : Nat) : checkR (houseAt n) = 0 := by
  have h := house_height n
  unfold heightE at h
  split at h
  · rename_i q; exact absurd h q
  · rename_i q; exact Classical.not_not.1 q
theorem encPnt_len (p : Pnt) : (encPnt p).length = 2 := rfl
theorem encFace_len (f : Face) : (encFace f).length = 7 := rfl
theorem encOpn_len (f : Opn) : (encOpn f).length = 6 := rfl
set_option maxHeartbeats 1000000 in
theorem house_any (w : World) : Calls Tryd.prog 49 #[] w fun e w' => e = .returned (roofVal (houseAt w.heap.size)) ∧ RdRoof w' (houseAt w.heap.size) ∧ Below w.heap.size w w' := by
  obtain ⟨n, hn⟩ : ∃ n, n = w.heap.size := ⟨_, rfl⟩
  obtain ⟨W1, hW1⟩ : ∃ W, W = w.alloc (.cells #[.slice (some ⟨w.heap.size + 1 + 1 + 1, 0, none⟩) 2 2, .slice (some ⟨w.heap.size + 1 + 1 + 1 + 1, 0, none⟩) 1 1] 25) := ⟨_, rfl⟩
  obtain ⟨W2, hW2⟩ : ∃ W, W = W1.alloc (.cells #[.int .i64 0, .int .i64 0, .int .i64 100, .int .i64 0, .int .i64 100, .int .i64 40, .int .i64 0, .int .i64 40] 39) := ⟨_, rfl⟩
  obtain ⟨W3, hW3⟩ : ∃ W, W = W2.alloc (.cells #[.int .i64 100, .int .i64 80, .int .i64 0, .int .i64 80, .int .i64 0, .int .i64 40, .int .i64 100, .int .i64 40] 39) := ⟨_, rfl⟩
  obtain ⟨W4, hW4⟩ : ∃ W, W = W3.alloc (.cells #[.string ⟨#[115]⟩, .int .i64 1, .int .i64 0, .int .i64 300, .int .i64 1, .int .i64 1, .slice (some ⟨w.heap.size + 1, 0, none⟩) 4 4, .string ⟨#[110]⟩, .int .i64 3, .int .i64 80, .int .i64 300, .int .i64 1, .int .i64 1, .slice (some ⟨w.heap.size + 1 + 1, 0, none⟩) 4 4] 45) := ⟨_, rfl⟩
  obtain ⟨W5, hW5⟩ : ∃ W, W = W4.alloc (.cells #[.string ⟨#[115, 116, 97, 99, 107]⟩, .int .i64 0, .int .i64 10, .int .i64 10, .int .i64 20, .int .i64 30] 58) := ⟨_, rfl⟩
  have s1 : W1.heap.size = w.heap.size + 1 := by rw [hW1]; exact World.size_alloc _ _
  have s2 : W2.heap.size = w.heap.size + 2 := by rw [hW2, World.size_alloc, s1]
  have s3 : W3.heap.size = w.heap.size + 3 := by rw [hW3, World.size_alloc, s2]
  have s4 : W4.heap.size = w.heap.size + 4 := by rw [hW4, World.size_alloc, s3]
  have b0 : W5.heap[w.heap.size]? = some (.cells #[.slice (some ⟨w.heap.size + 1 + 1 + 1, 0, none⟩) 2 2, .slice (some ⟨w.heap.size + 1 + 1 + 1 + 1, 0, none⟩) 1 1] 25 (0, 0)) := by rw [hW5]; exact heap_old _ _ _ _ (by rw [hW4]; exact heap_old _ _ _ _ (by rw [hW3]; exact heap_old _ _ _ _ (by rw [hW2]; exact heap_old _ _ _ _ (by rw [hW1]; exact heap_new _ _ _ rfl))))
  obtain ⟨z0, z1⟩ := cells2 b0
  have b1 : W5.heap[w.heap.size + 1]? = some (.cells #[.int .i64 0, .int .i64 0, .int .i64 100, .int .i64 0, .int .i64 100, .int .i64 40, .int .i64 0, .int .i64 40] 39 (0, 0)) := by rw [hW5]; exact heap_old _ _ _ _ (by rw [hW4]; exact heap_old _ _ _ _ (by rw [hW3]; exact heap_old _ _ _ _ (by rw [hW2]; exact heap_new _ _ _ s1.symm)))
  have b2 : W5.heap[w.heap.size + 2]? = some (.cells #[.int .i64 100, .int .i64 80, .int .i64 0, .int .i64 80, .int .i64 0, .int .i64 40, .int .i64 100, .int .i64 40] 39 (0, 0)) := by rw [hW5]; exact heap_old _ _ _ _ (by rw [hW4]; exact heap_old _ _ _ _ (by rw [hW3]; exact heap_new _ _ _ s2.symm))
  have b3 : W5.heap[w.heap.size + 3]? = some (.cells #[.string ⟨#[115]⟩, .int .i64 1, .int .i64 0, .int .i64 300, .int .i64 1, .int .i64 1, .slice (some ⟨w.heap.size + 1, 0, none⟩) 4 4, .string ⟨#[110]⟩, .int .i64 3, .int .i64 80, .int .i64 300, .int .i64 1, .int .i64 1, .slice (some ⟨w.heap.size + 1 + 1, 0, none⟩) 4 4] 45 (0, 0)) := by rw [hW5]; exact heap_old _ _ _ _ (by rw [hW4]; exact heap_new _ _ _ s3.symm)
  have b4 : W5.heap[w.heap.size + 4]? = some (.cells #[.string ⟨#[115, 116, 97, 99, 107]⟩, .int .i64 0, .int .i64 10, .int .i64 10, .int .i64 20, .int .i64 30] 58 (0, 0)) := by rw [hW5]; exact heap_new _ _ _ s4.symm
  have hB : Below w.heap.size w W5 := by
    rw [hW5, hW4, hW3, hW2, hW1]
    refine ((((((Below.refl _ w).alloc (Nat.le_refl _) _).alloc ?_ _).alloc ?_ _).alloc ?_ _).alloc ?_ _) <;> simp <;> omega
  have hR : RdRoof W5 (houseAt w.heap.size) := by
    refine ⟨⟨flatRow_block encFace_len (t := 45) b3 (by show (2 : Nat) ≤ _; decide), fun f hf => ?_⟩, ⟨flatRow_block encOpn_len (t := 58) b4 (by show (1 : Nat) ≤ _; decide), fun q hq => ?_⟩, (by show (2 : Nat) ≤ 2; decide), (by show (1 : Nat) ≤ 1; decide)⟩
    · simp only [houseAt, List.mem_cons, List.not_mem_nil, or_false] at hf
      rcases hf with rfl | rfl
      · exact ⟨flatRow_block encPnt_len (t := 39) b1 (by show (4 : Nat) ≤ _; decide), (by show (1 : Nat) ≤ _; decide), (by show (4 : Nat) ≤ 4; decide)⟩
      · exact ⟨flatRow_block encPnt_len (t := 39) b2 (by show (4 : Nat) ≤ _; decide), (by show (1 : Nat) ≤ _; decide), (by show (4 : Nat) ≤ 4; decide)⟩
    · simp only [houseAt, List.mem_cons, List.not_mem_nil, or_false] at hq
      subst hq
      show (5 : Nat) ≤ _
      decide
  have hR' := Lib.hid hR
  have hB' := Lib.hid hB
  clear hR hB s1 s2 s3 s4 b1 b2 b3 b4
  replace hn := Lib.hid hn
  go_enter Tryd.func49, Tryd.ntmps49
  go_wp2
  rw [← hW1, ← hW2, ← hW3, ← hW4, ← hW5]
  exact bodyPost_ret (v := .agg #[.slice (some ⟨w.heap.size + 1 + 1 + 1, 0, none⟩) 2 2, .slice (some ⟨w.heap.size + 1 + 1 + 1 + 1, 0, none⟩) 1 1]) (by simp [results, Tryd.results49, go_sem, z0, z1]) rfl ⟨rfl, hR'.out, hB'.out⟩
end Go.Proofs.YthojfhdenfhjfaaDoor
end
section
namespace Go.Proofs.YthojfhdenfhjfaaDoor
open Go.RowKit Go.Lib Go.Shelf

theorem flat5 {α : Type} {enc : α → List Value} {w : World} {A : Option Addr} {l : List α} (h : FlatRow enc 5 w A l) {i : Nat} (hi : i < l.length)
    {v0 v1 v2 v3 v4 : Value} (he : enc l[i] = [v0, v1, v2, v3, v4]) : ∃ ad, A = some ad ∧
    w.cell? (ad.add (i * 5)) = some v0 ∧ w.cell? ⟨(ad.add (i * 5)).block, (ad.add (i * 5)).off + 1, none⟩ = some v1 ∧ w.cell? ⟨(ad.add (i * 5)).block, (ad.add (i * 5)).off + 2, none⟩ = some v2 ∧
    w.cell? ⟨(ad.add (i * 5)).block, (ad.add (i * 5)).off + 3, none⟩ = some v3 ∧ w.cell? ⟨(ad.add (i * 5)).block, (ad.add (i * 5)).off + 4, none⟩ = some v4 := by
  obtain ⟨ad, e, hc⟩ := h.2 i l[i] (by simp [hi])
  rw [he] at hc
  refine ⟨ad, e, hc 0 _ rfl, ?_, ?_, ?_, ?_⟩ <;> (rw [← addr_field _ _ _ (by omega)]; exact hc _ _ rfl)
theorem FlatRow.at_getD {α : Type} [Inhabited α] {enc : α → List Value} {w : World} {A : Option Addr} {l : List α} (h : FlatRow enc 5 w A l) {i : Nat} (hi : i < l.length)
    {v0 v1 v2 v3 v4 : Value} (he : enc (l.getD i default) = [v0, v1, v2, v3, v4]) : ∃ ad, A = some ad ∧
    w.cell? (ad.add (i * 5)) = some v0 ∧ w.cell? ⟨(ad.add (i * 5)).block, (ad.add (i * 5)).off + 1, none⟩ = some v1 ∧ w.cell? ⟨(ad.add (i * 5)).block, (ad.add (i * 5)).off + 2, none⟩ = some v2 ∧
    w.cell? ⟨(ad.add (i * 5)).block, (ad.add (i * 5)).off + 3, none⟩ = some v3 ∧ w.cell? ⟨(ad.add (i * 5)).block, (ad.add (i * 5)).off + 4, none⟩ = some v4 := by
  have e : l.getD i default = l[i] := by simp [List.getD_eq_getElem?_getD, hi]
  rw [e] at he
  exact flat5 h hi he
set_option maxHeartbeats 2000000 in
set_option maxRecDepth 100000 in
theorem lives_any (w : World) (hfa : FaX w) : Calls Tryd.prog 16 #[] w fun e w' => e = .returned (.bool true) ∧ Below w.heap.size w w' := by
  have c49 := fun V => house_any V
  have c35 : Hid (∀ V n, RdRoof V (houseAt n) → FaX V → Calls Tryd.prog 35 #[roofVal (houseAt n)] V fun e w' => Below V.heap.size V w' ∧ ∃ A c, e = .returned (.tuple #[.slice A 8 c, .int .i64 0]) ∧ FlatRow encRow 5 w' A (rowsL (houseAt n).faces)) := fun V n hR hF => by
    refine (edgesR_any (houseAt n) V hR hF (by show (2 : Nat) ≤ _; decide) (by show (1 : Nat) ≤ _; decide)).mono ?_
    rintro e w' ⟨h1, h2 | h2⟩
    · exact absurd (house_check n) h2.1
    · obtain ⟨_, A, c, rfl, h3⟩ := h2
      refine ⟨h1, A, c, ?_, h3⟩
      rw [house_rows]
      rfl
  have c20 : Hid (∀ V n, RdRoof V (houseAt n) → FaX V → Calls Tryd.prog 20 #[roofVal (houseAt n), .int .i64 1, .agg #[.int .i64 50, .int .i64 0]] V fun e w' => e = .returned (.tuple #[.agg #[.int .i64 380, .int .i64 1], .int .i64 0]) ∧ Below V.heap.size V w') := fun V n hR hF => by
    have h := height_any (houseAt n) 1 ⟨50, 0⟩ V hR hF (by show (2 : Nat) ≤ _; decide) (by show (1 : Nat) ≤ _; decide)
    rw [house_height, house_rat] at h
    exact h
  have hfw := Lib.hid hfa
  clear hfa
  go_enter Tryd.func16, Tryd.ntmps16
  go_wp2_with (go_at_call 49; (with_reducible refine (c49 w).mono ?_); rintro e w1 ⟨rfl, hR1, hb1⟩; have hF1 := hfw.out.later hb1)
  obtain ⟨n1, hn1⟩ : ∃ n, n = w.heap.size := ⟨_, rfl⟩
  rw [← hn1] at hR1 ⊢
  replace hn1 := Lib.hid hn1
  go_wp2_with (go_at_call 35; (with_reducible refine (c35.out _ _ hR1 hF1).mono ?_); rintro e w2 ⟨hb2, A, c, rfl, hrow⟩)
  have hF2 := hF1.later hb2
  go_wp2_with (go_at_call 49; (with_reducible refine (c49 w2).mono ?_); rintro e w3 ⟨rfl, hR3, hb3⟩)
  have hF3 := hF2.later hb3
  obtain ⟨n3, hn3⟩ : ∃ n, n = w2.heap.size := ⟨_, rfl⟩
  rw [← hn3] at hR3 ⊢
  replace hn3 := Lib.hid hn3
  rw [house_rows] at hrow
  go_wp2_with (go_at_call 20; (with_reducible refine (c20.out _ _ hR3 hF3).mono ?_); rintro e w4 ⟨rfl, hb4⟩; have hX : Below w2.heap.size w2 (w4.alloc (.cells #[.int .i64 380, .int .i64 1] 47)) := (hb3.trans (hb4.mono hb3.size)).alloc (Nat.le_trans hb3.size hb4.size) _; have hrX := Lib.hid (hrow.below hX); obtain ⟨ad, hA, p0, p1, p2, p3, p4⟩ := hrX.out.at_getD (i := 2) (v0 := .int .i64 0) (v1 := .int .i64 2) (v2 := .int .i64 5) (v3 := .int .i64 1) (v4 := .int .i64 2) (by decide) rfl; obtain ⟨ad2, hA2, q0, q1, q2, q3, q4⟩ := hrX.out.at_getD (i := 0) (v0 := .int .i64 0) (v1 := .int .i64 0) (v2 := .int .i64 1) (v3 := .int .i64 (-1)) (v4 := .int .i64 (-1)) (by decide) rfl; subst hA; cases hA2; simp only [Nat.reduceMul] at p0 p1 p2 p3 p4 q0 q1 q2 q3 q4; rw [show ad.add 10 = ⟨ad.block, ad.off + 10, none⟩ by simp [Addr.add]] at p0 p1 p2 p3 p4; rw [show ad.add 0 = ad by simp [Addr.add]] at q0 q1 q2 q3 q4; dsimp only at p1 p2 p3 p4)
  go_ret
  exact ⟨rfl, (hb1.trans (hb2.mono hb1.size)).trans (hX.mono (Nat.le_trans hb1.size hb2.size))⟩
end Go.Proofs.YthojfhdenfhjfaaDoor
end
