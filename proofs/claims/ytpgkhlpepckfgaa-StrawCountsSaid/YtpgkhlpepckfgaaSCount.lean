/-
  straw.count: the loads of parts are added, field by field: walked.
-/
import Derived.Test.YtpgkhlpepckfgaaEnough
import Derived.Test.YtpgkhlpepckfgaaSWalk
import Derived.RegionTactic
import Derived.BigRegion
namespace Go.Proofs.Ytpgkhlpepckfgaa
open Go.RowKit Go.Lib

def cntRow (n : Nat) (f : Nat → Int) : Array Value := ((List.range n).map fun i => Value.int .i64 (f i)).toArray
theorem cntRow_get {n : Nat} {f : Nat → Int} {i : Nat} (h : i < n) : (cntRow n f)[i]? = some (.int .i64 (f i)) := by simp [cntRow, h]
theorem cntRow_set {n : Nat} {f g : Nat → Int} {i : Nat} (h : i < n) (ho : ∀ j, j ≠ i → g j = f j) : (cntRow n f).setIfInBounds i (.int .i64 (g i)) = cntRow n g := by
  apply Array.ext_getElem?
  intro j
  rw [Array.getElem?_setIfInBounds]
  by_cases hj : i = j
  · subst hj
    rw [if_pos rfl, if_pos (by simpa [cntRow] using h), cntRow_get h]
  · rw [if_neg hj]
    by_cases hjn : j < n
    · rw [cntRow_get hjn, cntRow_get hjn, ho j (fun e => hj e.symm)]
    · simp [cntRow, hjn]
theorem cell_cnt {w : World} {g n : Nat} {f : Nat → Int} (h : w.heap[g]? = some (.cells (cntRow n f) 3 (0, 0))) {i : Nat} (hi : i < n) : w.cell? ⟨g, i, none⟩ = some (.int .i64 (f i)) := by
  simp only [World.cell?, h, cntRow_get hi]
  rfl

set_option maxHeartbeats 2000000 in
set_option maxRecDepth 100000 in
theorem count_any (w0 w : World) (g cap n : Nat) (f : Nat → Int) (B : Option Addr) (cb : Nat) (l : List Portion) (h : RdParts w0 B l) (hb : Below w0.heap.size w0 w) (hg : w0.heap.size ≤ g) (hgs : g < w.heap.size)
    (hrow : w.heap[g]? = some (.cells (cntRow n f) 3 (0, 0))) (hm : Mild l) (hf : ∀ i, 0 ≤ f i ∧ f i ≤ 1000000000000000) (hin : ∀ p ∈ l, 0 ≤ p.plot ∧ p.plot < (n : Int)) (hn : n ≤ 1000000) (hnc : n ≤ cap) :
    Calls Try.prog 61 #[.slice (some ⟨g, 0, none⟩) n cap, .slice B l.length cb] w fun e w' => e = .returned (.tuple #[]) ∧ w'.heap[g]? = some (.cells (cntRow n fun i => f i + ofL l i) 3 (0, 0)) ∧ Below w0.heap.size w0 w' ∧ w.heap.size ≤ w'.heap.size ∧ ∀ k, k < w.heap.size → k ≠ g → w'.heap[k]? = w.heap[k]? := by
  have hl := h.1
  have hlm := hm.1
  have hstart : Hid (w.heap[g]? = some (.cells (cntRow n fun i => f i + ofL (l.take 0) i) 3 (0, 0))) := by
    have e : (fun i : Nat => f i + ofL (l.take 0) i) = f := funext fun i => by simp [ofL]
    unfold Hid; rw [e]; exact hrow
  go_enter Try.func61, Try.ntmps61
  go_wp2
  go_loopw [8] (fun i wr => ∃ k : Nat, i = .int .i64 k ∧ k ≤ l.length ∧ w.heap.size ≤ wr.heap.size ∧ Hid (wr.heap[g]? = some (.cells (cntRow n fun i => f i + ofL (l.take k) i) 3 (0, 0))) ∧ Hid (Below w0.heap.size w0 wr) ∧ Hid (∀ k, k < w.heap.size → k ≠ g → wr.heap[k]? = w.heap[k]?)) (fun i _ => l.length - (intOf i).toNat)
  case atStart => exact ⟨0, rfl, by omega, Nat.le_refl _, hstart, hb, fun _ _ _ => rfl⟩
  case round =>
    obtain ⟨k, rfl, hk, hsz, hR, hB, hK⟩ := hrel
    by_cases hlt : k < l.length
    · obtain ⟨ad, hA, p0, p1⟩ := FlatRow.at2 (FlatRow.below h hB.out) hlt rfl
      subst hA
      obtain ⟨i0, i1⟩ := hin _ (List.getElem_mem hlt)
      obtain ⟨j, hj⟩ : ∃ j : Nat, l[k].plot = (j : Int) := ⟨l[k].plot.toNat, by omega⟩
      have hjn : j < n := by omega
      obtain ⟨q1, q2⟩ := hm.2 _ (List.getElem_mem hlt)
      have hstep : ∀ i : Nat, ofL (l.take (k + 1)) (i : Int) = ofL (l.take k) i + if l[k].plot = (i : Int) then l[k].loads else 0 := fun i => ofL_take l i k hlt
      have hstep := Lib.hid hstep
      obtain ⟨ll, hll⟩ : ∃ ll, ll = l[k].loads := ⟨_, rfl⟩
      rw [hj] at p0
      rw [← hll] at p1 q1 q2
      replace hll := Lib.hid hll
      replace hj := Lib.hid hj
      obtain ⟨t1, t2⟩ := hm.take k
      obtain ⟨b1, b2⟩ := ofL_bounds (j : Int) t1
      obtain ⟨f1, f2⟩ := hf j
      have hgw : g < wr.heap.size := by omega
      have c0 : (wr.alloc (.cells #[.int .i64 j, .int .i64 ll] 91)).cell? ⟨g, j, none⟩ = some (.int .i64 (f j + ofL (l.take k) j)) := cell_cnt (heap_old _ _ _ _ hR.out) hjn
      have c1 : wr.cell? ⟨g, j, none⟩ = some (.int .i64 (f j + ofL (l.take k) j)) := cell_cnt hR.out hjn
      have fz : wr.frozen? ⟨g, j, none⟩ = false := frozen_four hR.out j
      have c2 : wr.cell? ((⟨g, 0, none⟩ : Addr).add j) = some (.int .i64 (f j + ofL (l.take k) j)) := by rw [lit_add]; exact c1
      go_wp2
      go_region
      go_wp2
      refine ⟨⟨k + 1, by go_num, by omega, by show _ ≤ ((wr.setCell _ _).alloc _).heap.size; simp; omega, ?_, ?_, ?_⟩, by simp only [intOf]; omega⟩
      · refine (heap_old _ _ _ _ (set_cells hR.out _)).trans ?_
        have e : f j + ofL (l.take k) j + ll = (fun i : Nat => f i + ofL (l.take (k + 1)) i) j := by
          dsimp only; rw [hstep.out j, if_pos hj.out, hll.out, Int.add_assoc]
        rw [e]
        have hset := cntRow_set (f := fun i : Nat => f i + ofL (l.take k) i) (g := fun i : Nat => f i + ofL (l.take (k + 1)) i) hjn (fun i hi => by
          rw [hstep.out i, if_neg (by rw [hj.out]; omega), Int.add_zero])
        exact congrArg (fun c => some (Obj.cells c 3 (0, 0))) hset
      · exact ((hB.out.setCell (p := ⟨g, j, none⟩) hg _).alloc (by simp; omega) _).drew
      · exact fun k2 h1 h2 => (((Below.refl _ (wr.setCell ⟨g, j, none⟩ _)).alloc (Nat.le_refl _) _).block k2 (by simp; omega)).trans ((Below.heap_setCell _ _ _ _ h2).trans (hK.out k2 h1 h2))
    · have hke : k = l.length := by omega
      subst hke
      go_wp2
      go_end0
      have hR' := hR.out
      simp only [List.take_length] at hR'
      exact ⟨rfl, hR', hB.out, hsz, hK.out⟩
end Go.Proofs.Ytpgkhlpepckfgaa
