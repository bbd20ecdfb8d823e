/-
  The number of the heap with a name: walked, both.
-/
import Derived.Test.YtpgkhlpepckfgaaSHeaped
import Derived.Test.YtpgkhlpepckfgaaSCS
namespace Go.Proofs.Ytpgkhlpepckfgaa
open Go.RowKit Go.Lib

/-- The first heap with a name; -1: there is none. -/
def nameIdx (nm : ByteArray) (l : List Heap) : Int := if l.any (fun h => decide (h.name = nm)) then l.findIdx (fun h => decide (h.name = nm)) else -1
theorem nameIdx_end {nm : ByteArray} {l : List Heap} (h : ∀ j (hj : j < l.length), l[j].name ≠ nm) : nameIdx nm l = -1 := by
  have : l.any (fun h => decide (h.name = nm)) = false := by
    refine Bool.eq_false_iff.2 fun e => ?_
    obtain ⟨x, hx, hq⟩ := List.any_eq_true.1 e
    obtain ⟨j, hj, rfl⟩ := List.mem_iff_getElem.1 hx
    exact h j hj (of_decide_eq_true hq)
  unfold nameIdx; rw [this]; rfl
theorem nameIdx_stop {nm : ByteArray} {l : List Heap} {k : Nat} (hk : k < l.length) (h : ∀ j (hj : j < l.length), j < k → l[j].name ≠ nm) (hq : l[k].name = nm) : nameIdx nm l = k := by
  have e1 : l.any (fun h => decide (h.name = nm)) = true := List.any_eq_true.2 ⟨l[k], List.getElem_mem hk, decide_eq_true hq⟩
  unfold nameIdx
  rw [e1, if_pos rfl]
  have : l.findIdx (fun h => decide (h.name = nm)) = k := (List.findIdx_eq hk).2 ⟨decide_eq_true hq, fun j hj => decide_eq_false (h j (by omega) hj)⟩
  rw [this]
theorem nameIdx_range (nm : ByteArray) (l : List Heap) : -1 ≤ nameIdx nm l ∧ nameIdx nm l < l.length := by
  unfold nameIdx
  split
  · rename_i h
    have : l.findIdx (fun h => decide (h.name = nm)) < l.length := List.findIdx_lt_length.2 (by obtain ⟨x, hx, hq⟩ := List.any_eq_true.1 h; exact ⟨x, hx, hq⟩)
    omega
  · omega

set_option maxHeartbeats 1000000 in
set_option maxRecDepth 100000 in
theorem nameIs_any (H : Heap) (nm : ByteArray) (b : Nat) (w : World) (hb : w.cell? ⟨b, 0, none⟩ = some (.string nm)) (hbl : b < w.heap.size) :
    Calls Try.prog 67 #[.agg (hcells H), ptr b] w fun e w' => e = .returned (.bool (H.name.toList == nm.toList)) ∧ Below w.heap.size w w' := by
  go_enter Try.func67, Try.ntmps67
  go_wp2
  go_ret
  exact ⟨rfl, (Below.refl _ w).alloc (Nat.le_refl _) _⟩

set_option maxHeartbeats 1000000 in
set_option maxRecDepth 100000 in
theorem indexH_any (B : Option Addr) (cb : Nat) (l : List Heap) (nm : ByteArray) (b : Nat) (w : World) (hb : w.cell? ⟨b, 0, none⟩ = some (.string nm)) (hl : RdHeaps w B l) :
    Calls Try.prog 66 #[.slice B l.length cb, .func (.func 67) #[] #[ptr b]] w fun e w' => e = .returned (.int .i64 (nameIdx nm l)) ∧ Below w.heap.size w w' := by
  have hll := hl.1.1
  have hbl : Hid (b < w.heap.size) := World.block_lt_of_cell? w _ hb
  replace hb := Lib.hid hb
  go_enter Try.func66, Try.ntmps66
  go_wp2
  go_loopw [8] (fun i wr => ∃ k : Nat, i = .int .i64 k ∧ k ≤ l.length ∧ Hid (∀ j (hj : j < l.length), j < k → l[j].name ≠ nm) ∧ Hid (Below w.heap.size w wr)) (fun i _ => l.length - (intOf i).toNat)
  case atStart => exact ⟨0, rfl, by omega, (fun j _ hj => absurd hj (Nat.not_lt_zero _)), Below.refl _ _⟩
  case round =>
    obtain ⟨k, rfl, hk, hall, hB⟩ := hrel
    by_cases hlt : k < l.length
    · obtain ⟨ad, hA, p0, p1, p2, p3, p4, p5, p6⟩ := (FlatRow.below hl.1 hB.out).at7 hlt rfl
      subst hA
      obtain ⟨H, hH⟩ : ∃ H, H = l[k] := ⟨_, rfl⟩
      rw [← hH] at p0 p1 p2 p3 p4 p5 p6
      replace hH := Lib.hid hH
      by_cases q : H.name = nm
      · have qb : (H.name.toList == nm.toList) = true := by rw [q]; simp
        replace qb := Lib.hid qb
        replace q := Lib.hid q
        go_wp2_with (go_at_call 67; refine (nameIs_any H nm b _ ((hB.out.cell (p := ⟨b, 0, none⟩) hbl.out).trans hb.out) (Nat.lt_of_lt_of_le hbl.out hB.out.size)).mono ?_; rintro e w1 ⟨rfl, hb1⟩; rw [qb.out])
        go_ret
        exact ⟨by rw [nameIdx_stop hlt hall.out (by rw [← hH.out]; exact q.out)]; rfl, hB.out.trans (hb1.mono hB.out.size)⟩
      · have qb : (H.name.toList == nm.toList) = false := by rw [bytes_beq]; simpa using q
        replace qb := Lib.hid qb
        replace q := Lib.hid q
        go_wp2_with (go_at_call 67; refine (nameIs_any H nm b _ ((hB.out.cell (p := ⟨b, 0, none⟩) hbl.out).trans hb.out) (Nat.lt_of_lt_of_le hbl.out hB.out.size)).mono ?_; rintro e w1 ⟨rfl, hb1⟩; rw [qb.out])
        refine ⟨⟨k + 1, by go_num, by omega, (fun j hj hjk => ?_), hB.out.trans (hb1.mono hB.out.size)⟩, by simp only [intOf]; omega⟩
        rcases Nat.lt_succ_iff_lt_or_eq.1 hjk with h | rfl
        · exact hall.out j hj h
        · rw [← hH.out]; exact q.out
    · go_wp2
      go_ret
      exact ⟨by rw [nameIdx_end (fun j hj => hall.out j hj (by omega))]; rfl, hB.out⟩

set_option maxHeartbeats 1000000 in
set_option maxRecDepth 100000 in
theorem at_any (s : Store) (nm : ByteArray) (w : World) (hs : RdStore w s) :
    Calls Try.prog 70 #[storeVal s, .string nm] w fun e w' => e = .returned (.int .i64 (nameIdx nm s.heaps)) ∧ Below w.heap.size w w' := by
  have hll := hs.heaps.1.1
  have hb0 : Hid (Below w.heap.size w (w.alloc (.cells (storeCells s) 43))) := (Below.refl _ w).alloc (Nat.le_refl _) _
  have hst : Hid ((w.alloc (.cells (storeCells s) 43)).heap[w.heap.size]? = some (.cells (storeCells s) 43 (0, 0))) := heap_new _ _ _ rfl
  go_enter Try.func70, Try.ntmps70
  go_wp2
  go_loopw [5] (fun i wr => ∃ k : Nat, i = .int .i64 k ∧ k ≤ s.heaps.length ∧ Hid (∀ j (hj : j < s.heaps.length), j < k → s.heaps[j].name ≠ nm) ∧ Hid (wr = w.alloc (.cells (storeCells s) 43))) (fun i _ => s.heaps.length - (intOf i).toNat)
  case atStart => exact ⟨0, rfl, by omega, (fun j _ hj => absurd hj (Nat.not_lt_zero _)), rfl⟩
  case round =>
    obtain ⟨k, rfl, hk, hall, hW⟩ := hrel
    have hbw : Hid (Below w.heap.size w wr) := by unfold Hid; rw [hW.out]; exact hb0.out
    obtain ⟨_, _, _, k3, _, _⟩ := six_cells (show wr.heap[w.heap.size]? = some (.cells (storeCells s) 43 (0, 0)) by rw [hW.out]; exact hst.out)
    by_cases hlt : k < s.heaps.length
    · obtain ⟨ad, hA, p0, _⟩ := (FlatRow.below hs.heaps.1 hbw.out).at7 hlt rfl
      rw [hA] at k3
      replace hA := Lib.hid hA
      obtain ⟨hn, hH⟩ : ∃ hn, hn = s.heaps[k].name := ⟨_, rfl⟩
      rw [← hH] at p0
      replace hH := Lib.hid hH
      by_cases q : hn = nm
      · have qb : (hn.toList == nm.toList) = true := by rw [q]; simp
        replace q := Lib.hid q
        go_wp2
        go_ret
        exact ⟨by rw [nameIdx_stop hlt hall.out (by rw [← hH.out]; exact q.out)]; rfl, hbw.out⟩
      · have qb : (hn.toList == nm.toList) = false := by rw [bytes_beq]; simpa using q
        replace q := Lib.hid q
        go_wp2
        refine ⟨⟨k + 1, by go_num, by omega, (fun j hj hjk => ?_), hW⟩, by simp only [intOf]; omega⟩
        rcases Nat.lt_succ_iff_lt_or_eq.1 hjk with h | rfl
        · exact hall.out j hj h
        · rw [← hH.out]; exact q.out
    · go_wp2
      go_ret
      exact ⟨by rw [nameIdx_end (fun j hj => hall.out j hj (by omega))]; rfl, hbw.out⟩
end Go.Proofs.Ytpgkhlpepckfgaa
