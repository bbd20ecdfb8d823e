/-
  What stands in memory while straw.Choose walks over all choices.
-/
import Derived.Test.YtpgkhlpepckfgaaXa04
import Derived.Test.YtpgkhlpepckfgaaXa05
import Derived.OneCell
import Derived.WalkSmall
set_option linter.all false
set_option linter.unusedVariables false
set_option linter.unusedSimpArgs false
namespace Go.Proofs.Ytpgkhlpepckfgaa
open Go.RowKit Go.Lib Go.Maps

abbrev ptr (b : Nat) : Value := .pointer (some ⟨b, 0, none⟩)
/-- The variables of Choose that its inner function has; B: the first block. -/
abbrev caps (B M : Nat) : Array Value := #[ptr B, ptr (M + 1), ptr (B + 4), ptr (B + 3), ptr (M + 2), ptr (B + 2), ptr (M + 3)]

def SlRow (w : World) (base : Nat) (v : Value) (l : List Int) : Prop := w.ownsRow base 3 1 v l.length (l.map (Value.int .i64))

structure WS (w0 : World) (M : Nat) (w : World) (A : Option Addr) (c : Nat) (plots : List Plot) (dry : Int) (n : Need) (l : List Int) (b : Best) (vl : Value) : Prop where
  below : Below w0.heap.size w0 w
  hM : w0.heap.size + 5 ≤ M
  size : M + 4 ≤ w.heap.size
  farm : w.heap[w0.heap.size]? = some (.cells #[.slice A plots.length c, .int .i64 dry] 24 (0, 0))
  want : w.heap[M + 1]? = some (.cells #[.map (some (M))] 93 (0, 0))
  mp : ∃ m, MapIs w Try.prog 74 (M) m (needM n)
  found : w.heap[w0.heap.size + 4]? = some (.cells #[.bool b.found] 4 (0, 0))
  cost : w.heap[w0.heap.size + 3]? = some (.cells #[.int .i64 b.cost] 3 (0, 0))
  walk : w.heap[M + 3]? = some (.cells #[.func (.func 44) #[] (caps w0.heap.size M)] 94 (0, 0))
  rows : ∃ vc, w.heap[M + 2]? = some (.cells #[vl] 29 (0, 0)) ∧ SlRow w (M + 4) vl l ∧
    w.heap[w0.heap.size + 2]? = some (.cells #[vc] 29 (0, 0)) ∧ SlRow w (M + 4) vc b.choice ∧ ∀ k, vl.ownBlock = some k → vc.ownBlock ≠ some k

/-- What the inner walk leaves as it lay; vl, vl': the list's slice ahead and behind. -/
structure Fr (B M : Nat) (w : World) (vl : Value) (w' : World) (vl' : Value) : Prop where
  size : w.heap.size ≤ w'.heap.size
  same : ∀ k, k < w.heap.size → k ≠ B + 2 → k ≠ B + 3 → k ≠ B + 4 → k ≠ M → k ≠ M + 2 → vl.ownBlock ≠ some k → w'.heap[k]? = w.heap[k]?
  near : ∀ k, vl'.ownBlock = some k → vl.ownBlock = some k ∨ w.heap.size ≤ k
theorem Fr.trans {B M : Nat} {w w1 w2 : World} {v v1 v2 : Value} (h : Fr B M w v w1 v1) (g : Fr B M w1 v1 w2 v2) : Fr B M w v w2 v2 :=
  ⟨Nat.le_trans h.size g.size, fun k hk a2 a3 a4 a5 a7 hv => by
    have hs := h.size
    refine (g.same k (by omega) a2 a3 a4 a5 a7 fun e => ?_).trans (h.same k hk a2 a3 a4 a5 a7 hv)
    rcases h.near k e with h1 | h1
    · exact hv h1
    · omega, fun k e => by
    have hs := h.size
    rcases g.near k e with h1 | h1
    · exact h.near k h1
    · exact .inr (by omega)⟩
theorem Fr.of_below {B M : Nat} {w w1 : World} {v : Value} (hb : Below w.heap.size w w1) : Fr B M w v w1 v :=
  ⟨hb.size, fun k hk _ _ _ _ _ _ => hb.block k hk, fun k e => .inl e⟩
theorem zeroInt (w : World) : (zeroValue 3).run Try.prog w = .ok (.int .i64 0) w := by kernel_rfl
theorem cell_of_two {w : World} {b : Nat} {v u : Value} {t : TypeId} (h : w.heap[b]? = some (.cells #[v, u] t (0, 0))) : w.cell? ⟨b, 0, none⟩ = some v := by simp [World.cell?, h]
theorem lit_add (g j : Nat) : (⟨g, 0, none⟩ : Addr).add j = ⟨g, j, none⟩ := by unfold Addr.add; split <;> simp_all

theorem SlRow.reads {w : World} {base : Nat} {v : Value} {l : List Int} (h : SlRow w base v l) (hl : l.length ≤ 140737488351232) : ∃ A c, v = .slice A l.length c ∧ RdInts w A l := by
  rcases h.2 with ⟨rfl, h0⟩ | ⟨g, cap, cur, rfl, _⟩
  · have : l = [] := List.eq_nil_of_length_eq_zero h0
    subst this
    exact ⟨none, 0, rfl, by simp, by simp⟩
  · refine ⟨_, cap, rfl, hl, fun i x hx => ⟨_, rfl, fun j u hu => ?_⟩⟩
    have hj : j = 0 := by cases j with | zero => rfl | succ j => simp [encI] at hu
    subst hj
    simp [encI] at hu
    subst hu
    rw [Nat.mul_one, Nat.add_zero]
    exact h.cells (g := g) rfl i _ (by simp [hx])
theorem SlRow.slice {w : World} {base : Nat} {v : Value} {l : List Int} (h : SlRow w base v l) : ∃ A c, v = .slice A l.length c := by
  rcases h.2 with ⟨rfl, h0⟩ | ⟨g, cap, cur, rfl, _⟩
  · exact ⟨none, 0, by rw [h0]⟩
  · exact ⟨_, cap, rfl⟩
theorem SlRow.below {w w1 : World} {base : Nat} {v : Value} {l : List Int} (h : SlRow w base v l) (hb : Below w.heap.size w w1) : SlRow w1 base v l :=
  ownsRow_same h fun k hk => hb.block k (h.lt k hk).2

theorem SlRow.drewN {w : World} {base : Nat} {v : Value} {l : List Int} (h : SlRow w base v l) (n : Nat) : SlRow (w.drewN n) base v l := h.below ⟨rfl, rfl, rfl, Nat.le_refl _, fun _ _ => rfl⟩

/-- slices.Clone of whole numbers. -/
theorem clone_any (w : World) (base : Nat) (v : Value) (l : List Int) (hl : l.length * 8 ≤ 140737488355328) (h : SlRow w base v l) :
    Calls Try.prog 48 #[v] w fun e w' => ∃ A' c', e = .returned (.slice A' l.length c') ∧ SlRow w' w.heap.size (.slice A' l.length c') l ∧ Below w.heap.size w w' := by
  rcases h.2 with ⟨rfl, h0⟩ | ⟨g, cap, cur, rfl, _⟩
  · have : l = [] := List.eq_nil_of_length_eq_zero h0
    subst this
    refine (Try.slices_Clone_int_nil 0 0 w).mono ?_
    rintro e w' ⟨rfl, rfl⟩
    exact ⟨none, 0, rfl, World.ownsRow_nil _ _ _ _, Below.refl _ _⟩
  · refine (Try.slices_Clone_int g 0 l.length cap l w (Nat.le_refl _) hl (fun j hj => ?_)).mono ?_
    · have hc := h.cells (g := g) rfl j (.int .i64 (l.getD j 0)) (by simp [List.getD_eq_getElem?_getD, hj])
      rw [lit_add] at hc
      rw [Nat.zero_add]
      exact hc
    · rintro e w' ⟨v', rfl, ho, _, hb⟩
      rw [List.take_length] at ho
      obtain ⟨A', c', rfl⟩ := SlRow.slice ho
      exact ⟨A', c', rfl, ho, hb⟩

theorem set_other {w : World} {k b : Nat} {o : Obj} {u : Value} (h : w.heap[k]? = some o) (hne : k ≠ b) : (w.setCell ⟨b, 0, none⟩ u).heap[k]? = some o := by
  rw [Below.heap_setCell _ _ _ _ (by simpa using hne)]; exact h
theorem set_size (w : World) (a : Addr) (u : Value) : (w.setCell a u).heap.size = w.heap.size := by simp [World.setCell]
theorem SlRow.set {w : World} {base b : Nat} {v u : Value} {l : List Int} (h : SlRow w base v l) (hb : b < base) : SlRow (w.setCell ⟨b, 0, none⟩ u) base v l :=
  ownsRow_same h fun k hk => by rw [Below.heap_setCell _ _ _ _ (by have := (h.lt k hk).1; show k ≠ b; omega)]
theorem MapIs.set {w : World} {P : Program} {k b n b' : Nat} {m : Value → Option Value} {u : Value} (h : MapIs w P k b n m) (hne : b ≠ b') : MapIs (w.setCell ⟨b', 0, none⟩ u) P k b n m :=
  h.same (Below.heap_setCell _ _ _ _ (by simpa using hne))

theorem WS.later {w0 w w1 : World} {M : Nat} {A : Option Addr} {c : Nat} {plots : List Plot} {dry : Int} {n : Need} {l : List Int} {b : Best} {vl : Value} (hW : WS w0 M w A c plots dry n l b vl) (hb1 : Below w.heap.size w w1) : WS w0 M w1 A c plots dry n l b vl := by
  have hs := hW.size
  have hM := hW.hM
  have hs1 := hb1.size
  obtain ⟨m, hm⟩ := hW.mp
  obtain ⟨vc, hvl, hrl, hvc, hrc, hap⟩ := hW.rows
  have old : ∀ k o, k < w.heap.size → w.heap[k]? = some o → w1.heap[k]? = some o := fun k o hk h => (hb1.block k hk).trans h
  exact ⟨hW.below.trans (hb1.mono (by omega)), hM, by omega, old _ _ (by omega) hW.farm, old _ _ (by omega) hW.want, ⟨m, hm.below hb1 (by omega)⟩, old _ _ (by omega) hW.found, old _ _ (by omega) hW.cost, old _ _ (by omega) hW.walk,
    vc, old _ _ (by omega) hvl, hrl.below hb1, old _ _ (by omega) hvc, hrc.below hb1, hap⟩
theorem rdInts_block {w : World} {b t : Nat} {xs : List Int} (h : w.heap[b]? = some (.cells (xs.map (Value.int .i64)).toArray t (0, 0))) (hl : xs.length ≤ 140737488351232 := by decide) : RdInts w (some ⟨b, 0, none⟩) xs :=
  ⟨hl, fun i x hx => ⟨_, rfl, fun j u hu => by
    have hj : j = 0 := by cases j with | zero => rfl | succ j => simp [encI] at hu
    subst hj
    simp [encI] at hu
    subst hu
    rw [Nat.mul_one, Nat.add_zero, lit_add]
    simp [World.cell?, h, hx]⟩⟩

/-- What stands when a better choice has been written down. -/
theorem WS.record {w0 w w1 : World} {M : Nat} {A : Option Addr} {c : Nat} {plots : List Plot} {dry : Int} {n : Need} {l : List Int} {b : Best} {vl : Value} (hW : WS w0 M w A c plots dry n l b vl) (hb1 : Below w.heap.size w w1)
    {A' : Option Addr} {c' : Nat} (hrow : SlRow w1 w.heap.size (.slice A' l.length c') l) (paid : Int) :
    WS w0 M (((w1.setCell ⟨w0.heap.size + 2, 0, none⟩ (.slice A' l.length c')).setCell ⟨w0.heap.size + 3, 0, none⟩ (.int .i64 paid)).setCell ⟨w0.heap.size + 4, 0, none⟩ (.bool true)) A c plots dry n l ⟨true, paid, l⟩ vl := by
  have hs := hW.size
  have hM := hW.hM
  have hs1 := hb1.size
  obtain ⟨m, hm⟩ := hW.mp
  obtain ⟨vc, hvl, hrl, hvc, hrc, hap⟩ := hW.rows
  have hrow' : SlRow w1 (M + 4) (.slice A' l.length c') l := ownsRow_raise hrow (by omega)
  have old : ∀ k o, k < w.heap.size → w.heap[k]? = some o → w1.heap[k]? = some o := fun k o hk h => (hb1.block k hk).trans h
  refine ⟨?_, hM, ?_, ?_, ?_, ?_, ?_, ?_, ?_, ?_⟩
  · exact (((hW.below.trans (hb1.mono (by omega))).setCell (p := ⟨w0.heap.size + 2, 0, none⟩) (by show _ ≤ w0.heap.size + 2; omega) _).setCell (p := ⟨w0.heap.size + 3, 0, none⟩) (by show _ ≤ w0.heap.size + 3; omega) _).setCell (p := ⟨w0.heap.size + 4, 0, none⟩) (by show _ ≤ w0.heap.size + 4; omega) _
  · simp only [set_size]; omega
  · exact set_other (set_other (set_other (old _ _ (by omega) hW.farm) (by omega)) (by omega)) (by omega)
  · exact set_other (set_other (set_other (old _ _ (by omega) hW.want) (by omega)) (by omega)) (by omega)
  · exact ⟨m, (((hm.below hb1 (by omega)).set (by omega)).set (by omega)).set (by omega)⟩
  · exact one_setCell (set_other (set_other (old _ _ (by omega) hW.found) (by omega)) (by omega))
  · exact set_other (one_setCell (set_other (old _ _ (by omega) hW.cost) (by omega))) (by omega)
  · exact set_other (set_other (set_other (old _ _ (by omega) hW.walk) (by omega)) (by omega)) (by omega)
  · refine ⟨_, set_other (set_other (set_other (old _ _ (by omega) hvl) (by omega)) (by omega)) (by omega), (((hrl.below hb1).set (by omega)).set (by omega)).set (by omega), set_other (set_other (one_setCell (old _ _ (by omega) hvc)) (by omega)) (by omega),
      ((hrow'.set (by omega)).set (by omega)).set (by omega), fun k hk hk2 => ?_⟩
    have h1 := (hrl.lt k hk).2
    have h2 := (hrow.lt k hk2).1
    omega


theorem Fr.record {w0 w w1 : World} {M : Nat} {vl u2 u3 u4 : Value} (hb1 : Below w.heap.size w w1) :
    Fr w0.heap.size M w vl (((w1.setCell ⟨w0.heap.size + 2, 0, none⟩ u2).setCell ⟨w0.heap.size + 3, 0, none⟩ u3).setCell ⟨w0.heap.size + 4, 0, none⟩ u4) vl :=
  ⟨by simp only [set_size]; exact hb1.size, fun k hk a2 a3 a4 _ _ _ => by
    rw [Below.heap_setCell _ _ _ _ (by show k ≠ w0.heap.size + 4; omega), Below.heap_setCell _ _ _ _ (by show k ≠ w0.heap.size + 3; omega), Below.heap_setCell _ _ _ _ (by show k ≠ w0.heap.size + 2; omega)]
    exact hb1.block k hk, fun k e => .inl e⟩

section
variable {w0 w W w1 : World} {M : Nat} {A : Option Addr} {c : Nat} {plots : List Plot} {dry : Int} {n n' : Need} {l : List Int} {b : Best} {vl v' : Value}

/-- The list has got one number more. -/
theorem WS.push (hW : WS w0 M w A c plots dry n l b vl) (hb : Below w.heap.size w W) (i : Int)
    (hrow : w1.ownsRow (M + 4) 3 1 v' (l.length + 1) (l.map (Value.int .i64) ++ [.int .i64 i])) (hg : W.grownBy w1 vl.ownBlock) (hnear : ∀ k, v'.ownBlock = some k → vl.ownBlock = some k ∨ W.heap.size ≤ k) :
    WS w0 M (w1.setCell ⟨M + 2, 0, none⟩ v') A c plots dry n (l ++ [i]) b v' ∧ Fr w0.heap.size M w vl (w1.setCell ⟨M + 2, 0, none⟩ v') v' := by
  have hW' := hW.later hb
  have hs := hW'.size
  have hM := hW'.hM
  have hs0 := hW.size
  have hs1 := hg.size
  have hs2 := hb.size
  obtain ⟨m, hm⟩ := hW'.mp
  obtain ⟨vc, hvl, hrl, hvc, hrc, hap⟩ := hW'.rows
  have keep : ∀ k, k < W.heap.size → vl.ownBlock ≠ some k → w1.heap[k]? = W.heap[k]? := fun k hk hne => hg.block k hk (fun e => hne e.symm)
  have low : ∀ k, k < M + 4 → vl.ownBlock ≠ some k := fun k hk e => by have := (hrl.lt k e).1; omega
  have old : ∀ k o, k < M + 4 → k ≠ M + 2 → W.heap[k]? = some o → (w1.setCell ⟨M + 2, 0, none⟩ v').heap[k]? = some o := fun k o hk h7 h =>
    set_other ((keep k (by omega) (low k hk)).trans h) h7
  have hbw : Below w0.heap.size W w1 := (Below.refl _ W).grown hg (by omega) (fun k e => by have := (hrl.lt k e).1; omega)
  refine ⟨⟨?_, hM, ?_, old _ _ (by omega) (by omega) hW'.farm, old _ _ (by omega) (by omega) hW'.want, ⟨m, (hm.same (keep _ (by omega) (low _ (by omega)))).set (by omega)⟩, old _ _ (by omega) (by omega) hW'.found, old _ _ (by omega) (by omega) hW'.cost, old _ _ (by omega) (by omega) hW'.walk, vc, ?_, ?_, old _ _ (by omega) (by omega) hvc, ?_, ?_⟩, ⟨?_, ?_, ?_⟩⟩
  · exact (hW'.below.trans hbw).setCell (p := ⟨M + 2, 0, none⟩) (by show _ ≤ M + 2; omega) _
  · rw [set_size]; omega
  · exact one_setCell ((keep _ (by omega) (low _ (by omega))).trans hvl)
  · refine SlRow.set (v := v') (l := l ++ [i]) ?_ (by omega)
    unfold SlRow
    rw [List.map_append, List.length_append]
    exact hrow
  · exact SlRow.set (ownsRow_same hrc fun k hk => keep k (hrc.lt k hk).2 (fun e => hap k e hk)) (by omega)
  · intro k hk hk2
    rcases hnear k hk with h | h
    · exact hap k h hk2
    · have := (hrc.lt k hk2).2; omega
  · rw [set_size]; omega
  · intro k hk _ _ _ _ a7 hv
    rw [Below.heap_setCell _ _ _ _ (by show k ≠ M + 2; exact a7), keep k (by omega) hv]
    exact hb.block k hk
  · intro k hk
    rcases hnear k hk with h | h
    · exact .inl h
    · exact .inr (by omega)

/-- What is wanted has changed. -/
theorem WS.put (hW : WS w0 M w A c plots dry n l b vl) {m : Nat} (hm : MapIs w1 Try.prog 74 (M) m (needM n')) (hg : w.grownBy w1 (some (M))) :
    WS w0 M w1 A c plots dry n' l b vl ∧ Fr w0.heap.size M w vl w1 vl := by
  have hs := hW.size
  have hM := hW.hM
  have hs1 := hg.size
  obtain ⟨vc, hvl, hrl, hvc, hrc, hap⟩ := hW.rows
  have keep : ∀ k, k < w.heap.size → k ≠ M → w1.heap[k]? = w.heap[k]? := fun k hk hne => hg.block k hk (fun e => hne (Option.some.inj e))
  have old : ∀ k o, k < M + 4 → k ≠ M → w.heap[k]? = some o → w1.heap[k]? = some o := fun k o hk h5 h => (keep k (by omega) h5).trans h
  refine ⟨⟨hW.below.grown hg (by omega) (fun k e => by cases e; omega), hM, by omega, old _ _ (by omega) (by omega) hW.farm, old _ _ (by omega) (by omega) hW.want, ⟨m, hm⟩, old _ _ (by omega) (by omega) hW.found, old _ _ (by omega) (by omega) hW.cost, old _ _ (by omega) (by omega) hW.walk, vc, old _ _ (by omega) (by omega) hvl, ?_, old _ _ (by omega) (by omega) hvc, ?_, hap⟩, ⟨hs1, fun k hk _ _ _ a5 _ _ => keep k hk a5, fun k e => .inl e⟩⟩
  · exact ownsRow_same hrl fun k hk => keep k (hrl.lt k hk).2 (by have := (hrl.lt k hk).1; omega)
  · exact ownsRow_same hrc fun k hk => keep k (hrc.lt k hk).2 (by have := (hrc.lt k hk).1; omega)

/-- The last number has gone again. -/
theorem WS.pop {i : Int} {g cap : Nat} (hW : WS w0 M w A c plots dry n (l ++ [i]) b (.slice (some ⟨g, 0, none⟩) (l.length + 1) cap)) :
    WS w0 M (w.setCell ⟨M + 2, 0, none⟩ (.slice (some ⟨g, 0, none⟩) l.length cap)) A c plots dry n l b (.slice (some ⟨g, 0, none⟩) l.length cap) ∧
      Fr w0.heap.size M w (.slice (some ⟨g, 0, none⟩) (l.length + 1) cap) (w.setCell ⟨M + 2, 0, none⟩ (.slice (some ⟨g, 0, none⟩) l.length cap)) (.slice (some ⟨g, 0, none⟩) l.length cap) := by
  have hs := hW.size
  have hM := hW.hM
  obtain ⟨m, hm⟩ := hW.mp
  obtain ⟨vc, hvl, hrl, hvc, hrc, hap⟩ := hW.rows
  have hrl' : SlRow w (M + 4) (.slice (some ⟨g, 0, none⟩) l.length cap) l := by
    unfold SlRow at hrl ⊢
    rw [List.map_append, List.length_append] at hrl
    exact ownsRow_pop (by simp) hrl
  refine ⟨⟨hW.below.setCell (p := ⟨M + 2, 0, none⟩) (by show _ ≤ M + 2; omega) _, hM, by rw [set_size]; exact hs, set_other hW.farm (by omega), set_other hW.want (by omega), ⟨m, hm.set (by omega)⟩, set_other hW.found (by omega), set_other hW.cost (by omega), set_other hW.walk (by omega), vc, one_setCell hvl, hrl'.set (by omega), set_other hvc (by omega), hrc.set (by omega), hap⟩, ⟨by rw [set_size]; exact Nat.le_refl _, fun k hk _ _ _ _ a7 _ => Below.heap_setCell _ _ _ _ (by show k ≠ M + 2; exact a7), fun k e => .inl e⟩⟩
end
end Go.Proofs.Ytpgkhlpepckfgaa
