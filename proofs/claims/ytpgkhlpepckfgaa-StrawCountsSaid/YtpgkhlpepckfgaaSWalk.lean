/-
  How many loads parts have, in all and of a field: walked.
-/
import Derived.Test.YtpgkhlpepckfgaaStore
import Derived.Test.YtpgkhlpepckfgaaChoose
import Derived.LoopTactic
import Derived.Deep.QuietTactic
import Derived.BigQuiet
namespace Go.Proofs.Ytpgkhlpepckfgaa
open Go.RowKit Go.Lib

/-- Parts whose loads are no greater than what a farm may have. -/
def Mild (l : List Portion) : Prop := l.length ≤ 1000000 ∧ ∀ p ∈ l, 0 ≤ p.loads ∧ p.loads ≤ 100000
theorem sumL_take (l : List Portion) (k : Nat) (h : k < l.length) : sumL (l.take (k + 1)) = sumL (l.take k) + l[k].loads := by
  rw [List.take_succ_eq_append_getElem h]; simp only [sumL, List.map_append, List.map_cons, List.map_nil, List.sum_append, List.sum_cons, List.sum_nil, Int.add_zero]
theorem ofL_take (l : List Portion) (i : Int) (k : Nat) (h : k < l.length) : ofL (l.take (k + 1)) i = ofL (l.take k) i + if l[k].plot = i then l[k].loads else 0 := by
  rw [List.take_succ_eq_append_getElem h]; simp only [ofL, List.map_append, List.map_cons, List.map_nil, List.sum_append, List.sum_cons, List.sum_nil, Int.add_zero]
theorem sumL_bounds : ∀ {l : List Portion}, (∀ p ∈ l, 0 ≤ p.loads ∧ p.loads ≤ 100000) → 0 ≤ sumL l ∧ sumL l ≤ 100000 * l.length
  | [], _ => by simp [sumL]
  | p :: l, h => by
    obtain ⟨h0, h1⟩ := sumL_bounds (l := l) fun q hq => h q (by simp [hq])
    have := h p (by simp)
    simp only [sumL, List.map_cons, List.sum_cons, List.length_cons] at h0 h1 ⊢
    omega
theorem ofL_bounds (i : Int) : ∀ {l : List Portion}, (∀ p ∈ l, 0 ≤ p.loads ∧ p.loads ≤ 100000) → 0 ≤ ofL l i ∧ ofL l i ≤ 100000 * l.length
  | [], _ => by simp [ofL]
  | p :: l, h => by
    obtain ⟨h0, h1⟩ := ofL_bounds i (l := l) fun q hq => h q (by simp [hq])
    have := h p (by simp)
    simp only [ofL, List.map_cons, List.sum_cons, List.length_cons] at h0 h1 ⊢
    split <;> omega
theorem Mild.take {l : List Portion} (h : Mild l) (k : Nat) : (∀ p ∈ l.take k, 0 ≤ p.loads ∧ p.loads ≤ 100000) ∧ (l.take k).length ≤ 1000000 :=
  ⟨fun p hp => h.2 p (List.mem_of_mem_take hp), by rw [List.length_take]; have := h.1; omega⟩

set_option maxHeartbeats 1000000 in
set_option maxRecDepth 100000 in
theorem of_any (A : Option Addr) (c : Nat) (l : List Portion) (i : Int) (w : World) (h : RdParts w A l) (hm : Mild l) :
    Calls Try.prog 64 #[.slice A l.length c, .int .i64 i] w fun e w' => e = .returned (.int .i64 (ofL l i)) ∧ w = w' := by
  have hl := h.1
  have hlm := hm.1
  go_enter Try.func64, Try.ntmps64
  go_wp2
  go_loop [5, 6] (fun s j => ∃ k : Nat, s = .int .i64 (ofL (l.take k) i) ∧ j = .int .i64 k ∧ k ≤ l.length) (fun _ j => l.length - (intOf j).toNat)
  case atStart => exact ⟨0, rfl, rfl, by omega⟩
  case round =>
    obtain ⟨k, rfl, rfl, hk⟩ := hrel
    obtain ⟨t1, t2⟩ := hm.take k
    obtain ⟨b1, b2⟩ := ofL_bounds i t1
    by_cases hlt : k < l.length
    · obtain ⟨ad, hA, p0, p1⟩ := FlatRow.at2 h hlt rfl
      subst hA
      have hs := ofL_take l i k hlt
      obtain ⟨q1, q2⟩ := hm.2 _ (List.getElem_mem hlt)
      by_cases he : l[k].plot = i
      · rw [if_pos he] at hs
        have hs := Lib.hid hs
        go_wp2
        exact ⟨⟨k + 1, by rw [hs.out], by go_num, by omega⟩, by simp only [intOf]; omega⟩
      · rw [if_neg he] at hs
        have hs := Lib.hid hs
        go_wp2
        exact ⟨⟨k + 1, by rw [hs.out]; simp, by go_num, by omega⟩, by simp only [intOf]; omega⟩
    · have hke : k = l.length := by omega
      subst hke
      go_wp2
      go_ret
      simp
set_option maxHeartbeats 1000000 in
set_option maxRecDepth 100000 in
theorem loads_any (A : Option Addr) (c : Nat) (l : List Portion) (w : World) (h : RdParts w A l) (hm : Mild l) :
    Calls Try.prog 71 #[.slice A l.length c] w fun e w' => e = .returned (.int .i64 (sumL l)) ∧ w = w' := by
  have hl := h.1
  have hlm := hm.1
  go_enter Try.func71, Try.ntmps71
  go_wp2
  go_loop [3, 4] (fun s j => ∃ k : Nat, s = .int .i64 (sumL (l.take k)) ∧ j = .int .i64 k ∧ k ≤ l.length) (fun _ j => l.length - (intOf j).toNat)
  case atStart => exact ⟨0, rfl, rfl, by omega⟩
  case round =>
    obtain ⟨k, rfl, rfl, hk⟩ := hrel
    obtain ⟨t1, t2⟩ := hm.take k
    obtain ⟨b1, b2⟩ := sumL_bounds t1
    by_cases hlt : k < l.length
    · obtain ⟨ad, hA, p0, p1⟩ := FlatRow.at2 h hlt rfl
      subst hA
      have hs := sumL_take l k hlt
      obtain ⟨q1, q2⟩ := hm.2 _ (List.getElem_mem hlt)
      have hs := Lib.hid hs
      go_wp2
      exact ⟨⟨k + 1, by rw [hs.out], by go_num, by omega⟩, by simp only [intOf]; omega⟩
    · have hke : k = l.length := by omega
      subst hke
      go_wp2
      go_ret
      simp
set_option maxHeartbeats 1000000 in
set_option maxRecDepth 100000 in
theorem sum_any (A : Option Addr) (c : Nat) (l : List Portion) (w : World) (h : RdParts w A l) (hm : Mild l) :
    Calls Try.prog 68 #[.slice A l.length c] w fun e w' => e = .returned (.int .i64 (sumL l)) ∧ Below w.heap.size w w' := by
  have hl := h.1
  have hlm := hm.1
  go_enter Try.func68, Try.ntmps68
  go_wp2
  go_loopw [3, 8] (fun s j wr => ∃ k : Nat, s = .int .i64 (sumL (l.take k)) ∧ j = .int .i64 k ∧ k ≤ l.length ∧ Hid (Below w.heap.size w wr)) (fun _ j _ => l.length - (intOf j).toNat)
  case atStart => exact ⟨0, rfl, rfl, by omega, Below.refl _ _⟩
  case round =>
    obtain ⟨k, rfl, rfl, hk, hB⟩ := hrel
    obtain ⟨t1, t2⟩ := hm.take k
    obtain ⟨b1, b2⟩ := sumL_bounds t1
    by_cases hlt : k < l.length
    · obtain ⟨ad, hA, p0, p1⟩ := FlatRow.at2 (FlatRow.below h hB.out) hlt rfl
      subst hA
      have hs := sumL_take l k hlt
      obtain ⟨q1, q2⟩ := hm.2 _ (List.getElem_mem hlt)
      have hs := Lib.hid hs
      go_wp2
      exact ⟨⟨k + 1, by rw [hs.out], by go_num, by omega, hB.out.alloc hB.out.size _⟩, by simp only [intOf]; omega⟩
    · have hke : k = l.length := by omega
      subst hke
      go_wp2
      refine bodyPost_ret (v := .int .i64 (sumL (l.take l.length))) (by simp [results, Try.results68, go_sem]) rfl ⟨by rw [List.take_length], hB.out⟩
/-- Heaps with such parts. -/
def MildH (l : List Heap) : Prop := l.length ≤ 1000 ∧ ∀ h ∈ l, Mild h.parts
theorem leftL_take (l : List Heap) (i : Int) (k : Nat) (h : k < l.length) : leftL (l.take (k + 1)) i = leftL (l.take k) i + ofL l[k].parts i := by
  rw [List.take_succ_eq_append_getElem h]; simp only [leftL, List.map_append, List.map_cons, List.map_nil, List.sum_append, List.sum_cons, List.sum_nil, Int.add_zero]
theorem heapsL_take (l : List Heap) (k : Nat) (h : k < l.length) : heapsL (l.take (k + 1)) = heapsL (l.take k) + sumL l[k].parts := by
  rw [List.take_succ_eq_append_getElem h]; simp only [heapsL, List.map_append, List.map_cons, List.map_nil, List.sum_append, List.sum_cons, List.sum_nil, Int.add_zero]
theorem Mild.sum {l : List Portion} (h : Mild l) : 0 ≤ sumL l ∧ sumL l ≤ 100000000000 := by
  obtain ⟨b1, b2⟩ := sumL_bounds h.2
  have := h.1
  omega
theorem Mild.of {l : List Portion} (h : Mild l) (i : Int) : 0 ≤ ofL l i ∧ ofL l i ≤ 100000000000 := by
  obtain ⟨b1, b2⟩ := ofL_bounds i h.2
  have := h.1
  omega
theorem leftL_bounds (i : Int) : ∀ {l : List Heap}, (∀ h ∈ l, Mild h.parts) → 0 ≤ leftL l i ∧ leftL l i ≤ 100000000000 * l.length
  | [], _ => by simp [leftL]
  | p :: l, h => by
    obtain ⟨h0, h1⟩ := leftL_bounds i (l := l) fun q hq => h q (by simp [hq])
    have := (h p (by simp)).of i
    simp only [leftL, List.map_cons, List.sum_cons, List.length_cons] at h0 h1 ⊢
    omega
theorem heapsL_bounds : ∀ {l : List Heap}, (∀ h ∈ l, Mild h.parts) → 0 ≤ heapsL l ∧ heapsL l ≤ 100000000000 * l.length
  | [], _ => by simp [heapsL]
  | p :: l, h => by
    obtain ⟨h0, h1⟩ := heapsL_bounds (l := l) fun q hq => h q (by simp [hq])
    have := (h p (by simp)).sum
    simp only [heapsL, List.map_cons, List.sum_cons, List.length_cons] at h0 h1 ⊢
    omega
theorem MildH.take {l : List Heap} (h : MildH l) (k : Nat) : (∀ x ∈ l.take k, Mild x.parts) ∧ (l.take k).length ≤ 1000 :=
  ⟨fun p hp => h.2 p (List.mem_of_mem_take hp), by rw [List.length_take]; have := h.1; omega⟩
theorem six_cells {w : World} {b : Nat} {s : Store} {t : TypeId} (h : w.heap[b]? = some (.cells (storeCells s) t (0, 0))) : w.cell? ⟨b, 0, none⟩ = some (.int .i64 s.year) ∧ w.cell? ⟨b, 1, none⟩ = some (.slice s.la s.last.length s.lc) ∧ w.cell? ⟨b, 2, none⟩ = some (.slice s.ga s.given.length s.gc) ∧ w.cell? ⟨b, 3, none⟩ = some (.slice s.ha s.heaps.length s.hc) ∧ w.cell? ⟨b, 4, none⟩ = some (.slice s.ua s.used.length s.uc) ∧ w.cell? ⟨b, 5, none⟩ = some (.slice s.wa s.waste.length s.wc) := by
  refine ⟨?_, ?_, ?_, ?_, ?_, ?_⟩ <;> simp [World.cell?, h]

set_option maxHeartbeats 1000000 in
set_option maxRecDepth 100000 in
theorem left_any (s : Store) (i : Int) (w : World) (h : RdStore w s) (hm : MildH s.heaps) :
    Calls Try.prog 65 #[storeVal s, .int .i64 i] w fun e w' => e = .returned (.int .i64 (leftL s.heaps i)) ∧ Below w.heap.size w w' := by
  have hl := h.heaps.1.1
  have hlm := hm.1
  go_enter Try.func65, Try.ntmps65
  go_wp2
  go_loopw [5, 6] (fun v j wr => ∃ k : Nat, v = .int .i64 (leftL (s.heaps.take k) i) ∧ j = .int .i64 k ∧ k ≤ s.heaps.length ∧ w.heap.size < wr.heap.size ∧ Hid (wr.heap[w.heap.size]? = some (.cells (storeCells s) 43 (0, 0))) ∧ Hid (Below w.heap.size w wr)) (fun _ j _ => s.heaps.length - (intOf j).toNat)
  case atStart => exact ⟨0, rfl, rfl, by omega, by simp, heap_new _ _ _ rfl, (Below.refl _ w).alloc (Nat.le_refl _) _⟩
  case round =>
    obtain ⟨k, rfl, rfl, hk, hsz, hS, hB⟩ := hrel
    obtain ⟨s0, s1, s2, s3, s4, s5⟩ := six_cells hS.out
    obtain ⟨t1, t2⟩ := hm.take k
    obtain ⟨b1, b2⟩ := leftL_bounds i t1
    by_cases hlt : k < s.heaps.length
    · obtain ⟨ad, hA, p0, p1, p2, p3, p4, p5, p6⟩ := (FlatRow.below h.heaps.1 hB.out).at7 hlt rfl
      obtain ⟨hp, _⟩ := h.heaps.2 _ (List.getElem_mem hlt)
      have hmk := hm.2 _ (List.getElem_mem hlt)
      have hs := leftL_take s.heaps i k hlt
      obtain ⟨q1, q2⟩ := hmk.of i
      have hs := Lib.hid hs
      rw [hA] at s3
      go_wp2_with (go_at_call 64; refine (of_any _ _ _ _ _ (hp.below hB.out) hmk).mono ?_; rintro e w' ⟨rfl, rfl⟩)
      exact ⟨⟨k + 1, by rw [hs.out], by go_num, by omega, hsz, hS, hB⟩, by simp only [intOf]; omega⟩
    · have hke : k = s.heaps.length := by omega
      subst hke
      go_wp2
      refine bodyPost_ret (v := .int .i64 (leftL (s.heaps.take s.heaps.length) i)) (by simp [results, Try.results65, go_sem]) rfl ⟨by rw [List.take_length], hB.out⟩
end Go.Proofs.Ytpgkhlpepckfgaa
