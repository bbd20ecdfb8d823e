/-
  How many loads parts have, in all and of a field: walked. The first loads of parts, one by one, and then those of the rest: plain. The specification's comparisons of lists of numbers, walked. Lists of numbers, of parts, and stores that are one and the same: walked. Great: whether a farm is too great for the laws.
-/
import Derived.Test.YtpgkhlpepckfgaaXa04
import Derived.Test.YtpgkhlpepckfgaaXa09
import Derived.BigQuiet
import Derived.Deep.QuietTactic
import Derived.LoopTactic
set_option linter.all false
set_option linter.unusedVariables false
set_option linter.unusedSimpArgs false
section
namespace Go.Proofs.Ytpgkhlpepckfgaa
open Go.RowKit Go.Lib

/-- Parts whose loads are no greater than what a farm may have. -/
def Mild (l : List Portion) : Prop := l.length ≤ 1000000 ∧ ∀ p ∈ l, 0 ≤ p.loads ∧ p.loads ≤ 100000
theorem sumL_take (l : List Portion) (k : Nat) (h : k < l.length) : sumL (l.take (k + 1)) = sumL (l.take k) + l[k].loads := by
  rw [List.take_succ_eq_append_getElem h]; simp only [sumL, List.map_append, List.map_cons, List.map_nil, List.sum_append, List.sum_cons, List.sum_nil, Int.add_zero]
theorem ofL_take (l : List Portion) (i : Int) (k : Nat) (h : k < l.length) : ofL (l.take (k + 1)) i = ofL (l.take k) i + if l[k].plot = i then l[k].loads else 0 := by
  rw [List.take_succ_eq_append_getElem h]; simp only [ofL, List.map_append, List.map_cons, List.map_nil, List.sum_append, List.sum_cons, List.sum_nil, Int.add_zero]
theorem sumL_bounds : ∀ {l : List Portion}, (∀ p ∈ l, 0 ≤ p.loads ∧ p.loads ≤ 100000) → 0 ≤ sumL l ∧ sumL l ≤ 100000 * l.length
  | [], _ => by simp [sumL]
  | p :: l, h => by
    obtain ⟨h0, h1⟩ := sumL_bounds (l := l) fun q hq => h q (by simp [hq])
    have := h p (by simp)
    simp only [sumL, List.map_cons, List.sum_cons, List.length_cons] at h0 h1 ⊢
    omega
theorem ofL_bounds (i : Int) : ∀ {l : List Portion}, (∀ p ∈ l, 0 ≤ p.loads ∧ p.loads ≤ 100000) → 0 ≤ ofL l i ∧ ofL l i ≤ 100000 * l.length
  | [], _ => by simp [ofL]
  | p :: l, h => by
    obtain ⟨h0, h1⟩ := ofL_bounds i (l := l) fun q hq => h q (by simp [hq])
    have := h p (by simp)
    simp only [ofL, List.map_cons, List.sum_cons, List.length_cons] at h0 h1 ⊢
    split <;> omega
theorem Mild.take {l : List Portion} (h : Mild l) (k : Nat) : (∀ p ∈ l.take k, 0 ≤ p.loads ∧ p.loads ≤ 100000) ∧ (l.take k).length ≤ 1000000 :=
  ⟨fun p hp => h.2 p (List.mem_of_mem_take hp), by rw [List.length_take]; have := h.1; omega⟩

set_option maxHeartbeats 1000000 in
set_option maxRecDepth 100000 in
theorem of_any (A : Option Addr) (c : Nat) (l : List Portion) (i : Int) (w : World) (h : RdParts w A l) (hm : Mild l) :
    Calls Try.prog 64 #[.slice A l.length c, .int .i64 i] w fun e w' => e = .returned (.int .i64 (ofL l i)) ∧ w = w' := by
  have hl := h.1
  have hlm := hm.1
  go_enter Try.func64, Try.ntmps64
  go_wp2
  go_loop [5, 6] (fun s j => ∃ k : Nat, s = .int .i64 (ofL (l.take k) i) ∧ j = .int .i64 k ∧ k ≤ l.length) (fun _ j => l.length - (intOf j).toNat)
  case atStart => exact ⟨0, rfl, rfl, by omega⟩
  case round =>
    obtain ⟨k, rfl, rfl, hk⟩ := hrel
    obtain ⟨t1, t2⟩ := hm.take k
    obtain ⟨b1, b2⟩ := ofL_bounds i t1
    by_cases hlt : k < l.length
    · obtain ⟨ad, hA, p0, p1⟩ := FlatRow.at2 h hlt rfl
      subst hA
      have hs := ofL_take l i k hlt
      obtain ⟨q1, q2⟩ := hm.2 _ (List.getElem_mem hlt)
      by_cases he : l[k].plot = i
      · rw [if_pos he] at hs
        have hs := Lib.hid hs
        go_wp2
        exact ⟨⟨k + 1, by rw [hs.out], by go_num, by omega⟩, by simp only [intOf]; omega⟩
      · rw [if_neg he] at hs
        have hs := Lib.hid hs
        go_wp2
        exact ⟨⟨k + 1, by rw [hs.out]; simp, by go_num, by omega⟩, by simp only [intOf]; omega⟩
    · have hke : k = l.length := by omega
      subst hke
      go_wp2
      go_ret
      simp
set_option maxHeartbeats 1000000 in
set_option maxRecDepth 100000 in
theorem loads_any (A : Option Addr) (c : Nat) (l : List Portion) (w : World) (h : RdParts w A l) (hm : Mild l) :
    Calls Try.prog 71 #[.slice A l.length c] w fun e w' => e = .returned (.int .i64 (sumL l)) ∧ w = w' := by
  have hl := h.1
  have hlm := hm.1
  go_enter Try.func71, Try.ntmps71
  go_wp2
  go_loop [3, 4] (fun s j => ∃ k : Nat, s = .int .i64 (sumL (l.take k)) ∧ j = .int .i64 k ∧ k ≤ l.length) (fun _ j => l.length - (intOf j).toNat)
  case atStart => exact ⟨0, rfl, rfl, by omega⟩
  case round =>
    obtain ⟨k, rfl, rfl, hk⟩ := hrel
    obtain ⟨t1, t2⟩ := hm.take k
    obtain ⟨b1, b2⟩ := sumL_bounds t1
    by_cases hlt : k < l.length
    · obtain ⟨ad, hA, p0, p1⟩ := FlatRow.at2 h hlt rfl
      subst hA
      have hs := sumL_take l k hlt
      obtain ⟨q1, q2⟩ := hm.2 _ (List.getElem_mem hlt)
      have hs := Lib.hid hs
      go_wp2
      exact ⟨⟨k + 1, by rw [hs.out], by go_num, by omega⟩, by simp only [intOf]; omega⟩
    · have hke : k = l.length := by omega
      subst hke
      go_wp2
      go_ret
      simp
set_option maxHeartbeats 1000000 in
set_option maxRecDepth 100000 in
theorem sum_any (A : Option Addr) (c : Nat) (l : List Portion) (w : World) (h : RdParts w A l) (hm : Mild l) :
    Calls Try.prog 68 #[.slice A l.length c] w fun e w' => e = .returned (.int .i64 (sumL l)) ∧ Below w.heap.size w w' := by
  have hl := h.1
  have hlm := hm.1
  go_enter Try.func68, Try.ntmps68
  go_wp2
  go_loopw [3, 8] (fun s j wr => ∃ k : Nat, s = .int .i64 (sumL (l.take k)) ∧ j = .int .i64 k ∧ k ≤ l.length ∧ Hid (Below w.heap.size w wr)) (fun _ j _ => l.length - (intOf j).toNat)
  case atStart => exact ⟨0, rfl, rfl, by omega, Below.refl _ _⟩
  case round =>
    obtain ⟨k, rfl, rfl, hk, hB⟩ := hrel
    obtain ⟨t1, t2⟩ := hm.take k
    obtain ⟨b1, b2⟩ := sumL_bounds t1
    by_cases hlt : k < l.length
    · obtain ⟨ad, hA, p0, p1⟩ := FlatRow.at2 (FlatRow.below h hB.out) hlt rfl
      subst hA
      have hs := sumL_take l k hlt
      obtain ⟨q1, q2⟩ := hm.2 _ (List.getElem_mem hlt)
      have hs := Lib.hid hs
      go_wp2
      exact ⟨⟨k + 1, by rw [hs.out], by go_num, by omega, hB.out.alloc hB.out.size _⟩, by simp only [intOf]; omega⟩
    · have hke : k = l.length := by omega
      subst hke
      go_wp2
      refine bodyPost_ret (v := .int .i64 (sumL (l.take l.length))) (by simp [results, Try.results68, go_sem]) rfl ⟨by rw [List.take_length], hB.out⟩
/-- Heaps with such parts. -/
def MildH (l : List Heap) : Prop := l.length ≤ 1000 ∧ ∀ h ∈ l, Mild h.parts
theorem leftL_take (l : List Heap) (i : Int) (k : Nat) (h : k < l.length) : leftL (l.take (k + 1)) i = leftL (l.take k) i + ofL l[k].parts i := by
  rw [List.take_succ_eq_append_getElem h]; simp only [leftL, List.map_append, List.map_cons, List.map_nil, List.sum_append, List.sum_cons, List.sum_nil, Int.add_zero]
theorem heapsL_take (l : List Heap) (k : Nat) (h : k < l.length) : heapsL (l.take (k + 1)) = heapsL (l.take k) + sumL l[k].parts := by
  rw [List.take_succ_eq_append_getElem h]; simp only [heapsL, List.map_append, List.map_cons, List.map_nil, List.sum_append, List.sum_cons, List.sum_nil, Int.add_zero]
theorem Mild.sum {l : List Portion} (h : Mild l) : 0 ≤ sumL l ∧ sumL l ≤ 100000000000 := by
  obtain ⟨b1, b2⟩ := sumL_bounds h.2
  have := h.1
  omega
theorem Mild.of {l : List Portion} (h : Mild l) (i : Int) : 0 ≤ ofL l i ∧ ofL l i ≤ 100000000000 := by
  obtain ⟨b1, b2⟩ := ofL_bounds i h.2
  have := h.1
  omega
theorem leftL_bounds (i : Int) : ∀ {l : List Heap}, (∀ h ∈ l, Mild h.parts) → 0 ≤ leftL l i ∧ leftL l i ≤ 100000000000 * l.length
  | [], _ => by simp [leftL]
  | p :: l, h => by
    obtain ⟨h0, h1⟩ := leftL_bounds i (l := l) fun q hq => h q (by simp [hq])
    have := (h p (by simp)).of i
    simp only [leftL, List.map_cons, List.sum_cons, List.length_cons] at h0 h1 ⊢
    omega
theorem heapsL_bounds : ∀ {l : List Heap}, (∀ h ∈ l, Mild h.parts) → 0 ≤ heapsL l ∧ heapsL l ≤ 100000000000 * l.length
  | [], _ => by simp [heapsL]
  | p :: l, h => by
    obtain ⟨h0, h1⟩ := heapsL_bounds (l := l) fun q hq => h q (by simp [hq])
    have := (h p (by simp)).sum
    simp only [heapsL, List.map_cons, List.sum_cons, List.length_cons] at h0 h1 ⊢
    omega
theorem MildH.take {l : List Heap} (h : MildH l) (k : Nat) : (∀ x ∈ l.take k, Mild x.parts) ∧ (l.take k).length ≤ 1000 :=
  ⟨fun p hp => h.2 p (List.mem_of_mem_take hp), by rw [List.length_take]; have := h.1; omega⟩
theorem six_cells {w : World} {b : Nat} {s : Store} {t : TypeId} (h : w.heap[b]? = some (.cells (storeCells s) t (0, 0))) : w.cell? ⟨b, 0, none⟩ = some (.int .i64 s.year) ∧ w.cell? ⟨b, 1, none⟩ = some (.slice s.la s.last.length s.lc) ∧ w.cell? ⟨b, 2, none⟩ = some (.slice s.ga s.given.length s.gc) ∧ w.cell? ⟨b, 3, none⟩ = some (.slice s.ha s.heaps.length s.hc) ∧ w.cell? ⟨b, 4, none⟩ = some (.slice s.ua s.used.length s.uc) ∧ w.cell? ⟨b, 5, none⟩ = some (.slice s.wa s.waste.length s.wc) := by
  refine ⟨?_, ?_, ?_, ?_, ?_, ?_⟩ <;> simp [World.cell?, h]

set_option maxHeartbeats 1000000 in
set_option maxRecDepth 100000 in
theorem left_any (s : Store) (i : Int) (w : World) (h : RdStore w s) (hm : MildH s.heaps) :
    Calls Try.prog 65 #[storeVal s, .int .i64 i] w fun e w' => e = .returned (.int .i64 (leftL s.heaps i)) ∧ Below w.heap.size w w' := by
  have hl := h.heaps.1.1
  have hlm := hm.1
  go_enter Try.func65, Try.ntmps65
  go_wp2
  go_loopw [5, 6] (fun v j wr => ∃ k : Nat, v = .int .i64 (leftL (s.heaps.take k) i) ∧ j = .int .i64 k ∧ k ≤ s.heaps.length ∧ w.heap.size < wr.heap.size ∧ Hid (wr.heap[w.heap.size]? = some (.cells (storeCells s) 43 (0, 0))) ∧ Hid (Below w.heap.size w wr)) (fun _ j _ => s.heaps.length - (intOf j).toNat)
  case atStart => exact ⟨0, rfl, rfl, by omega, by simp, heap_new _ _ _ rfl, (Below.refl _ w).alloc (Nat.le_refl _) _⟩
  case round =>
    obtain ⟨k, rfl, rfl, hk, hsz, hS, hB⟩ := hrel
    obtain ⟨s0, s1, s2, s3, s4, s5⟩ := six_cells hS.out
    obtain ⟨t1, t2⟩ := hm.take k
    obtain ⟨b1, b2⟩ := leftL_bounds i t1
    by_cases hlt : k < s.heaps.length
    · obtain ⟨ad, hA, p0, p1, p2, p3, p4, p5, p6⟩ := (FlatRow.below h.heaps.1 hB.out).at7 hlt rfl
      obtain ⟨hp, _⟩ := h.heaps.2 _ (List.getElem_mem hlt)
      have hmk := hm.2 _ (List.getElem_mem hlt)
      have hs := leftL_take s.heaps i k hlt
      obtain ⟨q1, q2⟩ := hmk.of i
      have hs := Lib.hid hs
      rw [hA] at s3
      go_wp2_with (go_at_call 64; refine (of_any _ _ _ _ _ (hp.below hB.out) hmk).mono ?_; rintro e w' ⟨rfl, rfl⟩)
      exact ⟨⟨k + 1, by rw [hs.out], by go_num, by omega, hsz, hS, hB⟩, by simp only [intOf]; omega⟩
    · have hke : k = s.heaps.length := by omega
      subst hke
      go_wp2
      refine bodyPost_ret (v := .int .i64 (leftL (s.heaps.take s.heaps.length) i)) (by simp [results, Try.results65, go_sem]) rfl ⟨by rw [List.take_length], hB.out⟩
end Go.Proofs.Ytpgkhlpepckfgaa
end
section
namespace Go.Proofs.Ytpgkhlpepckfgaa
open Go.RowKit Go.Lib

/-- What one part yields, when r loads are still wanted. -/
def stepP (p : Portion) (r : Int) : List (Bool × Portion) :=
  (if 0 < min r p.loads then [(true, ⟨p.plot, min r p.loads⟩)] else []) ++ (if min r p.loads < p.loads then [(false, ⟨p.plot, p.loads - min r p.loads⟩)] else [])
def takenL : List Portion → Int → List (Bool × Portion)
  | [], _ => []
  | p :: l, r => stepP p r ++ takenL l (r - min r p.loads)
def remL : List Portion → Int → Int
  | [], r => r
  | p :: l, r => remL l (r - min r p.loads)
theorem remL_snoc (p : Portion) : ∀ (l : List Portion) (r : Int), remL (l ++ [p]) r = remL l r - min (remL l r) p.loads
  | [], r => rfl
  | q :: l, r => by simp only [List.cons_append, remL]; exact remL_snoc p l _
theorem takenL_snoc (p : Portion) : ∀ (l : List Portion) (r : Int), takenL (l ++ [p]) r = takenL l r ++ stepP p (remL l r)
  | [], r => by simp [takenL, remL]
  | q :: l, r => by simp only [List.cons_append, takenL, remL]; rw [takenL_snoc p l, List.append_assoc]
theorem stepP_len (p : Portion) (r : Int) : (stepP p r).length ≤ 2 := by unfold stepP; split <;> split <;> simp
theorem takenL_len : ∀ (l : List Portion) (r : Int), (takenL l r).length ≤ 2 * l.length
  | [], _ => by simp [takenL]
  | p :: l, r => by
    have := takenL_len l (r - min r p.loads)
    have := stepP_len p r
    simp only [takenL, List.length_append, List.length_cons]; omega
theorem remL_bounds : ∀ (l : List Portion) (r : Int), (∀ p ∈ l, 0 ≤ p.loads ∧ p.loads ≤ 100000) → 0 ≤ r → 0 ≤ remL l r ∧ remL l r ≤ r
  | [], r, _, h0 => ⟨h0, Int.le_refl _⟩
  | p :: l, r, h, h0 => by
    have hp := h p (by simp)
    have := remL_bounds l (r - min r p.loads) (fun q hq => h q (by simp [hq])) (by omega)
    simp only [remL]
    omega
/-- What is taken of parts, and what is left. -/
def firstL (l : List (Bool × Portion)) : List Portion := (l.filter (·.1)).map (·.2)
def restL (l : List (Bool × Portion)) : List Portion := (l.filter (!·.1)).map (·.2)
def cutF (l : List Portion) (n : Int) : List Portion := firstL (takenL l n)
def cutR (l : List Portion) (n : Int) : List Portion := restL (takenL l n)
theorem firstL_snoc (l : List (Bool × Portion)) (x : Bool × Portion) : firstL (l ++ [x]) = firstL l ++ (if x.1 then [x.2] else []) := by
  unfold firstL; cases h : x.1 <;> simp [List.filter_append, h]
theorem restL_snoc (l : List (Bool × Portion)) (x : Bool × Portion) : restL (l ++ [x]) = restL l ++ (if x.1 then [] else [x.2]) := by
  unfold restL; cases h : x.1 <;> simp [List.filter_append, h]
def encTaken (x : Bool × Portion) : Array Value := #[.bool x.1, .agg #[.int .i64 x.2.plot, .int .i64 x.2.loads]]
end Go.Proofs.Ytpgkhlpepckfgaa
end
section
namespace Go.Proofs.Ytpgkhlpepckfgaa
open Go.RowKit Go.Lib

theorem bne_cast {a b : Nat} (h : a ≠ b) : ((a : Int) != (b : Int)) = true := by rw [bne_iff_ne]; omega
theorem bne_cast' {a b : Nat} (h : a = b) : ((a : Int) != (b : Int)) = false := by rw [h]; simp

theorem cmp3_eq {x y : Int} {a b : List Int} (h : x = y) (hl : a.length = b.length) : cmp3 x a y b = cmpL a b := by
  rw [cmp3, orL3, if_pos (compareInt_zero.2 h), if_pos (compareInt_zero.2 (by omega))]
theorem cmp3_len {x y : Int} {a b : List Int} (h : x = y) (hl : a.length ≠ b.length) : decide (cmp3 x a y b < 0) = decide (a.length < b.length) := by
  rw [cmp3, orL3, if_pos (compareInt_zero.2 h), if_neg (fun e => hl (by have := compareInt_zero.1 e; omega))]
  exact decide_eq_decide.2 (compareInt_neg.trans (by omega))
theorem cmp3_cost {x y : Int} {a b : List Int} (h : x ≠ y) : decide (cmp3 x a y b < 0) = decide (x < y) := by
  rw [cmp3, orL3, if_neg (fun e => h (compareInt_zero.1 e))]
  exact decide_eq_decide.2 compareInt_neg

set_option maxHeartbeats 1000000 in
set_option maxRecDepth 100000 in
theorem ahead_any (A B : Option Addr) (ca cb : Nat) (a b : List Int) (x y : Int) (w : World) (h1 : RdInts w A a) (h2 : RdInts w B b) :
    Calls Try.prog 51 #[.slice A a.length ca, .int .i64 x, .slice B b.length cb, .int .i64 y] w fun e w' => e = .returned (.bool (decide (cmp3 x a y b < 0))) ∧ Below w.heap.size w w' := by
  have hl1 := h1.1
  have hl2 := h2.1
  by_cases hxy : x = y
  · by_cases hl : a.length = b.length
    · have hR : Hid (decide (cmp3 x a y b < 0) = decide (cmpL a b < 0)) := by rw [cmp3_eq hxy hl]; rfl
      have b1 : (x != y) = false := by rw [hxy]; simp
      have b2 := bne_cast' hl
      have hl := Lib.hid hl
      clear hxy
      go_enter Try.func51, Try.ntmps51
      go_wp2
      go_loopw [9] (fun i wr => ∃ k n : Nat, i = .int .i64 k ∧ k ≤ a.length ∧ Hid (cmpL a b = cmpL (a.drop k) (b.drop k)) ∧ wr = w.drewN n) (fun i _ => a.length - (intOf i).toNat)
      case atStart => exact ⟨0, 0, rfl, by omega, rfl, rfl⟩
      case round =>
        obtain ⟨k, n, rfl, hk, hE, rfl⟩ := hrel
        by_cases hlt : k < a.length
        · have hlt2 : k < b.length := by have := hl.out; omega
          obtain ⟨ad, hA, g0⟩ := h1.at1 hlt rfl
          obtain ⟨ad2, hA2, g2⟩ := h2.at1 hlt2 rfl
          subst hA
          cases hA2
          have hS := Lib.hid (cmpL_step hlt hlt2)
          by_cases hc : a[k] = b[k]
          · have b3 : (a[k] != b[k]) = false := by rw [hc]; simp
            have hc2 := Lib.hid hc
            clear hc
            go_wp2
            repeat (go_quiet (fail); try go_wp2)
            go_roundw
            case rel => exact ⟨k + 1, n + _, by go_num, by omega, by rw [hE.out, hS.out, if_pos (compareInt_zero.2 hc2.out)]; rfl, rfl⟩
            case measure => simp [intOf]; omega
          · have b3 : (a[k] != b[k]) = true := bne_iff_ne.2 hc
            have hc2 := Lib.hid hc
            clear hc
            go_wp2
            repeat (go_quiet (fail); try go_wp2)
            go_ret
            refine ⟨?_, (below_drewN_ _ _).trans ((below_drewN_ _ _).trans (below_drewN_ _ _))⟩
            rw [hR.out, hE.out, hS.out, if_neg (fun e => hc2.out (compareInt_zero.1 e))]
            exact ret_bool (decide_eq_decide.2 compareInt_neg).symm
        · have hk' : k = a.length := by omega
          have hz : Hid (cmpL a b = 0) := by
            unfold Hid
            rw [hE.out, hk', List.drop_length, List.drop_eq_nil_of_le (by have := hl.out; omega)]; rfl
          go_wp2
          go_ret
          exact ⟨by rw [hR.out, hz.out]; rfl, below_drewN_ _ _⟩
    · have hR := Lib.hid (cmp3_len hxy hl)
      have b1 : (x != y) = false := by rw [hxy]; simp
      have b2 := bne_cast hl
      have hl := Lib.hid hl
      clear hxy
      go_enter Try.func51, Try.ntmps51
      go_wp2
      go_ret
      exact ⟨by rw [hR.out]; rfl, Below.refl _ _⟩
  · have hR := Lib.hid (cmp3_cost (a := a) (b := b) hxy)
    have b1 : (x != y) = true := bne_iff_ne.2 hxy
    have hxy := Lib.hid hxy
    go_enter Try.func51, Try.ntmps51
    go_wp2
    go_ret
    exact ⟨by rw [hR.out]; rfl, Below.refl _ _⟩

set_option maxHeartbeats 1000000 in
set_option maxRecDepth 100000 in
/-- thatchlaw01.SameInts. -/
theorem sameInts_any (A B : Option Addr) (ca cb : Nat) (a b : List Int) (w : World) (h1 : RdInts w A a) (h2 : RdInts w B b) :
    Calls Try.prog 20 #[.slice A a.length ca, .slice B b.length cb] w fun e w' => e = .returned (.bool (decide (a = b))) ∧ Below w.heap.size w w' := by
  have hl1 := h1.1
  have hl2 := h2.1
  by_cases hl : a.length = b.length
  · have b2 := bne_cast' hl
    have hl := Lib.hid hl
    go_enter Try.func20, Try.ntmps20
    go_wp2
    go_loopw [5] (fun i wr => ∃ k n : Nat, i = .int .i64 k ∧ k ≤ a.length ∧ Hid (∀ j (ha : j < a.length) (hb : j < b.length), j < k → a[j] = b[j]) ∧ wr = w.drewN n) (fun i _ => a.length - (intOf i).toNat)
    case atStart => exact ⟨0, 0, rfl, by omega, fun j _ _ hj => by omega, rfl⟩
    case round =>
      obtain ⟨k, n, rfl, hk, hE, rfl⟩ := hrel
      by_cases hlt : k < a.length
      · have hlt2 : k < b.length := by have := hl.out; omega
        obtain ⟨ad, hA, g0⟩ := h1.at1 hlt rfl
        obtain ⟨ad2, hA2, g2⟩ := h2.at1 hlt2 rfl
        subst hA
        cases hA2
        by_cases hc : a[k] = b[k]
        · have b3 : (a[k] != b[k]) = false := by rw [hc]; simp
          have hS : Hid (∀ j (ha : j < a.length) (hb : j < b.length), j < k + 1 → a[j] = b[j]) := fun j ha hb hj => by
            rcases Nat.lt_or_ge j k with h | h
            · exact hE.out j ha hb h
            · obtain rfl : j = k := by omega
              exact hc
          clear hc
          go_wp2
          repeat (go_quiet (fail); try go_wp2)
          go_roundw
          case rel => exact ⟨k + 1, n + _, by go_num, by omega, hS.out, rfl⟩
          case measure => simp [intOf]; omega
        · have b3 : (a[k] != b[k]) = true := bne_iff_ne.2 hc
          have hz : Hid (decide (a = b) = false) := decide_eq_false (fun e => hc (by subst e; rfl))
          clear hc
          go_wp2
          repeat (go_quiet (fail); try go_wp2)
          go_ret
          exact ⟨by rw [hz.out]; rfl, (below_drewN_ _ _).trans (below_drewN_ _ _)⟩
      · have hz : Hid (decide (a = b) = true) := decide_eq_true (List.ext_getElem hl.out fun i ha hb => hE.out i ha hb (by omega))
        go_wp2
        go_ret
        exact ⟨by rw [hz.out]; rfl, below_drewN_ _ _⟩
  · have b2 := bne_cast hl
    have hz : Hid (decide (a = b) = false) := decide_eq_false (fun e => hl (by rw [e]))
    have hl := Lib.hid hl
    go_enter Try.func20, Try.ntmps20
    go_wp2
    go_ret
    exact ⟨by rw [hz.out]; rfl, Below.refl _ _⟩
end Go.Proofs.Ytpgkhlpepckfgaa
end
section
namespace Go.Proofs.Ytpgkhlpepckfgaa
open Go.RowKit Go.Lib

set_option maxHeartbeats 1000000 in
set_option maxRecDepth 100000 in
theorem rsameInts_any (A B : Option Addr) (ca cb : Nat) (a b : List Int) (w : World) (h1 : RdInts w A a) (h2 : RdInts w B b) :
    Calls Try.prog 59 #[.slice A a.length ca, .slice B b.length cb] w fun e w' => e = .returned (.bool (decide (a = b))) ∧ Below w.heap.size w w' := by
  have hl1 := h1.1
  have hl2 := h2.1
  by_cases hl : a.length = b.length
  · have b2 := bne_cast' hl
    have hl := Lib.hid hl
    go_enter Try.func59, Try.ntmps59
    go_wp2
    go_loopw [5] (fun i wr => ∃ k n : Nat, i = .int .i64 k ∧ k ≤ a.length ∧ Hid (∀ j (ha : j < a.length) (hb : j < b.length), j < k → a[j] = b[j]) ∧ wr = w.drewN n) (fun i _ => a.length - (intOf i).toNat)
    case atStart => exact ⟨0, 0, rfl, by omega, fun j _ _ hj => by omega, rfl⟩
    case round =>
      obtain ⟨k, n, rfl, hk, hE, rfl⟩ := hrel
      by_cases hlt : k < a.length
      · have hlt2 : k < b.length := by have := hl.out; omega
        obtain ⟨ad, hA, g0⟩ := h1.at1 hlt rfl
        obtain ⟨ad2, hA2, g2⟩ := h2.at1 hlt2 rfl
        subst hA
        cases hA2
        by_cases hc : a[k] = b[k]
        · have b3 : (a[k] != b[k]) = false := by rw [hc]; simp
          have hS : Hid (∀ j (ha : j < a.length) (hb : j < b.length), j < k + 1 → a[j] = b[j]) := fun j ha hb hj => by
            rcases Nat.lt_or_ge j k with h | h
            · exact hE.out j ha hb h
            · obtain rfl : j = k := by omega
              exact hc
          clear hc
          go_wp2
          repeat (go_quiet (fail); try go_wp2)
          go_roundw
          case rel => exact ⟨k + 1, n + _, by go_num, by omega, hS.out, rfl⟩
          case measure => simp [intOf]; omega
        · have b3 : (a[k] != b[k]) = true := bne_iff_ne.2 hc
          have hz : Hid (decide (a = b) = false) := decide_eq_false (fun e => hc (by subst e; rfl))
          clear hc
          go_wp2
          repeat (go_quiet (fail); try go_wp2)
          go_ret
          exact ⟨by rw [hz.out]; rfl, (below_drewN_ _ _).trans (below_drewN_ _ _)⟩
      · have hz : Hid (decide (a = b) = true) := decide_eq_true (List.ext_getElem hl.out fun i ha hb => hE.out i ha hb (by omega))
        go_wp2
        go_ret
        exact ⟨by rw [hz.out]; rfl, below_drewN_ _ _⟩
  · have b2 := bne_cast hl
    have hz : Hid (decide (a = b) = false) := decide_eq_false (fun e => hl (by rw [e]))
    have hl := Lib.hid hl
    go_enter Try.func59, Try.ntmps59
    go_wp2
    go_ret
    exact ⟨by rw [hz.out]; rfl, Below.refl _ _⟩

set_option maxHeartbeats 1000000 in
set_option maxRecDepth 100000 in
theorem sameParts_any (A B : Option Addr) (ca cb : Nat) (a b : List Portion) (w : World) (h1 : RdParts w A a) (h2 : RdParts w B b) :
    Calls Try.prog 34 #[.slice A a.length ca, .slice B b.length cb] w fun e w' => e = .returned (.bool (decide (a = b))) ∧ Below w.heap.size w w' := by
  have hl1 := h1.1
  have hl2 := h2.1
  by_cases hl : a.length = b.length
  · have b2 := bne_cast' hl
    have hl := Lib.hid hl
    go_enter Try.func34, Try.ntmps34
    go_wp2
    go_loopw [5] (fun i wr => ∃ k n : Nat, i = .int .i64 k ∧ k ≤ a.length ∧ Hid (∀ j (ha : j < a.length) (hb : j < b.length), j < k → a[j] = b[j]) ∧ wr = w.drewN n) (fun i _ => a.length - (intOf i).toNat)
    case atStart => exact ⟨0, 0, rfl, by omega, fun j _ _ hj => by omega, rfl⟩
    case round =>
      obtain ⟨k, n, rfl, hk, hE, rfl⟩ := hrel
      by_cases hlt : k < a.length
      · have hlt2 : k < b.length := by have := hl.out; omega
        obtain ⟨ad, hA, g0, g1⟩ := FlatRow.at2 h1 hlt rfl
        obtain ⟨ad2, hA2, g2, g3⟩ := FlatRow.at2 h2 hlt2 rfl
        subst hA
        cases hA2
        by_cases hc : a[k] = b[k]
        · have e1 : a[k].plot = b[k].plot := by rw [hc]
          have e2 : a[k].loads = b[k].loads := by rw [hc]
          have hS : Hid (∀ j (ha : j < a.length) (hb : j < b.length), j < k + 1 → a[j] = b[j]) := fun j ha hb hj => by
            rcases Nat.lt_or_ge j k with h | h
            · exact hE.out j ha hb h
            · obtain rfl : j = k := by omega
              exact hc
          clear hc
          go_wp2
          repeat (go_quiet (fail); try go_wp2)
          go_roundw
          case rel => exact ⟨k + 1, n + _, by go_num, by omega, hS.out, rfl⟩
          case measure => simp [intOf]; omega
        · have hpq : a[k].plot ≠ b[k].plot ∨ a[k].loads ≠ b[k].loads := by
            by_cases h : a[k].plot = b[k].plot
            · right; intro h2; exact hc (by cases h0 : a[k]; cases h3 : b[k]; rw [h0, h3] at h h2; simp_all)
            · exact .inl h
          have hz : Hid (decide (a = b) = false) := decide_eq_false (fun e => hc (by subst e; rfl))
          clear hc
          by_cases e1 : a[k].plot = b[k].plot
          · have e2 : a[k].loads ≠ b[k].loads := by rcases hpq with h | h; exact absurd e1 h; exact h
            have b1 : (a[k].plot == b[k].plot) = true := by simpa using e1
            have b4 : (a[k].loads == b[k].loads) = false := by simpa using e2
            have b5 : (a[k].loads != b[k].loads) = true := bne_iff_ne.2 e2
            clear hpq
            go_wp2
            go_big_quiet (fail)
            go_wp2
            go_ret
            exact ⟨by rw [hz.out]; rfl, (below_drewN_ _ _).trans (below_drewN_ _ _)⟩
          · have b1 : (a[k].plot == b[k].plot) = false := by simpa using e1
            have b5 : (a[k].plot != b[k].plot) = true := bne_iff_ne.2 e1
            clear hpq
            go_wp2
            go_big_quiet (fail)
            go_wp2
            go_ret
            exact ⟨by rw [hz.out]; rfl, (below_drewN_ _ _).trans (below_drewN_ _ _)⟩
      · have hz : Hid (decide (a = b) = true) := decide_eq_true (List.ext_getElem hl.out fun i ha hb => hE.out i ha hb (by omega))
        go_wp2
        go_ret
        exact ⟨by rw [hz.out]; rfl, below_drewN_ _ _⟩
  · have b2 := bne_cast hl
    have hz : Hid (decide (a = b) = false) := decide_eq_false (fun e => hl (by rw [e]))
    have hl := Lib.hid hl
    go_enter Try.func34, Try.ntmps34
    go_wp2
    go_ret
    exact ⟨by rw [hz.out]; rfl, Below.refl _ _⟩

end Go.Proofs.Ytpgkhlpepckfgaa
end
section
namespace Go.Proofs.Ytpgkhlpepckfgaa
open Go.RowKit Go.Lib

set_option maxHeartbeats 1000000 in
set_option maxRecDepth 100000 in
theorem great_any (A : Option Addr) (c : Nat) (l : List Plot) (dry : Int) (w : World) (h : RdPlots w A l) :
    Calls Try.prog 16 #[.agg #[.slice A l.length c, .int .i64 dry]] w fun e w' => (∃ b : Bool, e = .returned (.bool b) ∧ (b = false → l.length ≤ 30)) ∧ Below w.heap.size w w' := by
  have hl := h.1.1
  go_enter Try.func16, Try.ntmps16
  go_wp2
  go_loopw [3, 4] (fun s i wr => ∃ (x : Int) (k : Nat), s = .int .i64 x ∧ i = .int .i64 k ∧ k ≤ l.length ∧ wr.cell? ⟨w.heap.size, 0, none⟩ = some (.slice A l.length c) ∧ w.heap.size < wr.heap.size ∧ Below w.heap.size w wr) (fun _ i _ => l.length - (intOf i).toNat)
  case atStart => exact ⟨0, 0, rfl, rfl, by omega, cell_of_two (heap_new _ _ _ rfl), by simp, (Below.refl _ w).alloc (Nat.le_refl _) _⟩
  case round =>
    obtain ⟨x, k, rfl, rfl, hk, y1, z1, hB⟩ := hrel
    have hB := Lib.hid hB
    by_cases h30 : k ≤ 30
    · by_cases hlt : k < l.length
      · obtain ⟨ad, hA, p0, p1, p2, p3, p4, p5, p6, p7, p8⟩ := (h.1.below hB.out).at9 hlt rfl
        subst hA
        go_wp2
        exact ⟨⟨_, k + 1, rfl, by go_num, by omega, y1, z1, hB.out⟩, by simp only [intOf]; omega⟩
      · go_wp2
        refine bodyPost_ret (v := .bool (decide ((30 : Int) < l.length) || decide (2000 < x))) (by simp [results, Try.results16, go_sem]) rfl ⟨⟨_, rfl, ?_⟩, hB.out⟩
        intro hb
        simp at hb
        omega
    · by_cases h31 : 30 < l.length
      · have hk' : Hid (k ≤ l.length) := hk
        by_cases hlt : k < l.length
        · go_wp2
          refine bodyPost_ret (v := .bool true) (by simp [results, Try.results16, go_sem]) rfl ⟨.inr rfl, hB.out⟩
        · go_wp2
          refine bodyPost_ret (v := .bool true) (by simp [results, Try.results16, go_sem]) rfl ⟨.inr rfl, hB.out⟩
      · exfalso; omega
end Go.Proofs.Ytpgkhlpepckfgaa
end
