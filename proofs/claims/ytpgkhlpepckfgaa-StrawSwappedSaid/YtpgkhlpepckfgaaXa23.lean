/-
  The first store of a farm: walked. Copies of a store's lists, and what they make of a store's rows.
-/
import Derived.Test.YtpgkhlpepckfgaaXa02
import Derived.Test.YtpgkhlpepckfgaaXa15
import Derived.Test.YtpgkhlpepckfgaaXa19
import Derived.Test.YtpgkhlpepckfgaaXa21
import Derived.Test.YtpgkhlpepckfgaaXa22
import Derived.Deep.RegionLaw
import Derived.Laws.CopyOwn
import Derived.Outline
import Derived.StillTailTactics
set_option linter.all false
set_option linter.unusedVariables false
set_option linter.unusedSimpArgs false
section
namespace Go.Proofs.Ytpgkhlpepckfgaa
open Go.RowKit Go.Lib

def repRow (n k : Nat) : List Value := List.replicate k (.int .i64 (-1)) ++ List.replicate (n - k) (.int .i64 0)
def Reps (n : Nat) (w : World) (e : Ending) (w' : World) : Prop := e = .returned (.slice (some ⟨w.heap.size, 0, none⟩) n n) ∧ w'.heap[w.heap.size]? = some (.cells (repRow n n).toArray 3 (0, 0)) ∧ Below w.heap.size w w'
theorem repRow_len {n k : Nat} (h : k ≤ n) : (repRow n k).length = n := by simp [repRow]; omega
theorem repRow_zero (n : Nat) : (repRow n 0).toArray = cntRow n (fun _ => 0) := by
  rw [← made_cnt]
  apply Array.toList_inj.1
  rw [toList_madeCells_one]
  simp [repRow]
theorem repRow_splice {n k m : Nat} (h : k + m ≤ n) : splice (repRow n k) k (List.replicate m (.int .i64 (-1))) = repRow n (k + m) := by
  have e1 : (repRow n k).take k = List.replicate k (.int .i64 (-1)) := by unfold repRow; rw [List.take_append_of_le_length (by simp), List.take_of_length_le (by simp)]
  have e2 : (repRow n k).drop (k + m) = List.replicate (n - (k + m)) (.int .i64 0) := by
    unfold repRow
    rw [List.drop_append, List.drop_of_length_le (by simp), List.nil_append, List.length_replicate, List.drop_replicate]
    congr 1; omega
  unfold splice
  simp only [List.length_replicate]
  rw [e1, e2]
  unfold repRow
  rw [← List.append_assoc, List.replicate_append_replicate]
theorem info3s : (Try.prog.info? 3).map (·.size) = some 1 := by kernel_rfl

theorem rep_src {w : World} {b n k0 : Nat} (hb : w.heap[b]? = some (.cells #[.int .i64 (-1)] 3 (0, 0))) (h2 : k0 ≤ 1) : 0 < (List.replicate k0 (Value.int .i64 (-1))).length → some (⟨w.heap.size, 0, none⟩ : Addr) = some ⟨w.heap.size, 0, none⟩ ∧ ∃ ad, some (⟨b, 0, none⟩ : Addr) = some ad ∧ ∀ j v, (List.replicate k0 (Value.int .i64 (-1)))[j]? = some v → (w.alloc (.cells (cntRow n fun _ => 0) 3)).cell? (ad.add j) = some v := fun _ => ⟨rfl, _, rfl, fun j v hv => by
  rw [List.getElem?_replicate] at hv
  split at hv
  · obtain rfl : j = 0 := by omega
    cases hv
    have := heap_old w (.cells (cntRow n fun _ => 0) 3) _ b hb
    rw [lit_add]
    simp [World.cell?, this]
  · cases hv⟩

theorem rep_cell {wr : World} {g n k j : Nat} (hg : wr.heap[g]? = some (.cells (repRow n k).toArray 3 (0, 0))) (hj : j < k) : wr.cell? ⟨g, j, none⟩ = some (.int .i64 (-1)) := by
  simp only [World.cell?, hg]
  unfold repRow
  simp [List.getElem?_append, hj]
theorem rep_src2 {wr : World} {g n k m : Nat} (hg : wr.heap[g]? = some (.cells (repRow n k).toArray 3 (0, 0))) (h2 : m ≤ k) (_ : k ≤ n) : 0 < (List.replicate m (Value.int .i64 (-1))).length → some (⟨g, k, none⟩ : Addr) = some ⟨g, k, none⟩ ∧ ∃ ad, some (⟨g, 0, none⟩ : Addr) = some ad ∧ ∀ j v, (List.replicate m (Value.int .i64 (-1)))[j]? = some v → wr.drew.cell? (ad.add j) = some v := fun _ => ⟨rfl, _, rfl, fun j v hv => by
  rw [List.getElem?_replicate] at hv
  split at hv
  · cases hv
    rw [lit_add]
    exact rep_cell (j := j) hg (by omega)
  · cases hv⟩

theorem rep_copy {w wr : World} {n k m : Nat} (hg : wr.heap[w.heap.size]? = some (.cells (repRow n k).toArray 3 (0, 0))) (hm : m = Nat.min k (n - k)) (hk : k ≤ n) (hB : Below w.heap.size w wr) :
    ∃ w2, (Builtin.copy_ #[29, 29] 3 #[.slice (some ⟨w.heap.size, k, none⟩) (n - k) (n - k), .slice (some ⟨w.heap.size, 0, none⟩) k n]).run Try.prog wr.drew = .ok (.int .i64 m) w2 ∧ w2.heap[w.heap.size]? = some (.cells (repRow n (k + m)).toArray 3 (0, 0)) ∧ Below w.heap.size w w2 := by
  have hm1 : m ≤ k := by rw [hm]; exact Nat.min_le_left _ _
  have hm2 : m ≤ n - k := by rw [hm]; exact Nat.min_le_right _ _
  have hr := run_copy_row (P := Try.prog) wr.drew 29 29 3 3 w.heap.size k (n - k) (n - k) ⟨w.heap.size, 0, none⟩ k n (repRow n k).toArray 3 (List.replicate m (.int .i64 (-1))) Try.underlying29 info3s hg (by simp [hm]) (fun j v hv => by
    rw [List.getElem?_replicate] at hv
    split at hv
    · cases hv
      rw [lit_add]
      exact rep_cell (j := j) hg (by omega)
    · cases hv) (by simp [repRow]; omega) (fun v hv => by rw [List.eq_of_mem_replicate hv]; rfl)
  have hsp := repRow_splice (n := n) (k := k) (m := m) (by omega)
  unfold splice at hsp
  rw [← List.append_assoc] at hsp
  rw [List.length_replicate] at hsp hr
  rw [hsp] at hr
  exact ⟨_, hr, setRow_heap _ _ _ _ _ _ hg, below_setRow (hB.drew) (Nat.le_refl _) _⟩

theorem rep_reads {w : World} {g n : Nat} (hg : w.heap[g]? = some (.cells (repRow n n).toArray 3 (0, 0))) (hn : n ≤ 1000000) : RdInts w (some ⟨g, 0, none⟩) (List.replicate n (-1)) := by
  refine rdInts_block (t := 3) (hg.trans ?_) (by simp; omega)
  simp [repRow]

set_option maxHeartbeats 1000000 in
set_option maxRecDepth 100000 in
theorem repeat_any (b n : Nat) (w : World) (hb : w.heap[b]? = some (.cells #[.int .i64 (-1)] 3 (0, 0))) (hn : n ≤ 1000000) :
    Calls Try.prog 52 #[.slice (some ⟨b, 0, none⟩) 1 1, .int .i64 n] w (Reps n w) := by
  have hmk := make_cnt n hn
  have hm1 : 1 * n / 18446744073709551616 = 0 := by omega
  have hm2 : 1 * n % 18446744073709551616 = n := by omega
  have hmul : ∀ W, Calls Try.prog 81 #[.int .u64 1, .int .u64 n] W fun e w' => e = .returned (.tuple #[.int .u64 0, .int .u64 n]) ∧ W = w' := fun W => by
    have := Try.bits_Mul 1 n (by decide) (by omega) W
    rw [hm1, hm2] at this
    exact this.mono fun _ _ ⟨a, b⟩ => ⟨a, b.symm⟩
  replace hm1 := Lib.hid hm1
  replace hm2 := Lib.hid hm2
  replace hmul := Lib.hid hmul
  replace hb := Lib.hid hb
  have hneg : decide ((n : Int) < 0) = false := by simp
  have hneg2 : decide ((9223372036854775807 : Int) < (n : Int)) = false := by simp; omega
  have hb2 : Hid (b < w.heap.size) := by unfold Hid; rcases Nat.lt_or_ge b w.heap.size with h | h; exact h; have := hb.out; rw [Array.getElem?_eq_none h] at this; cases this
  go_enter Try.func52, Try.ntmps52
  have hg0 : Hid ((w.alloc (.cells (cntRow n fun _ => 0) 3)).heap[w.heap.size]? = some (.cells (repRow n 0).toArray 3 (0, 0))) := by unfold Hid; rw [repRow_zero]; exact heap_new _ _ _ rfl
  have hB0 : Hid (Below w.heap.size w (w.alloc (.cells (cntRow n fun _ => 0) 3))) := (Below.refl _ w).alloc (Nat.le_refl _) _
  obtain ⟨k0, hk0⟩ : ∃ k0, k0 = Nat.min 1 n := ⟨_, rfl⟩
  have hk3 : Hid (k0 ≤ 1) := by unfold Hid; rw [hk0]; exact Nat.min_le_left _ _
  have hk1 : k0 ≤ n := by rw [hk0]; exact Nat.min_le_right _ _
  have hk2 : 1 ≤ k0 ∨ n = 0 := by rw [hk0]; rcases Nat.eq_zero_or_pos n with h | h; exact .inr h; exact .inl (by show 1 ≤ min 1 n; omega)
  have hcs : Hid ((List.replicate k0 (Value.int .i64 (-1))).length = Nat.min 1 n) := by unfold Hid; simp [hk0]
  have hfit : Hid (0 + (List.replicate k0 (Value.int .i64 (-1))).length ≤ (repRow n 0).length) := by unfold Hid; rw [repRow_len (Nat.zero_le _)]; simp; omega
  have hone : Hid (∀ v ∈ List.replicate k0 (Value.int .i64 (-1)), v.oneCell' = true) := fun v hv => by rw [List.eq_of_mem_replicate hv]; rfl
  replace hk0 := Lib.hid hk0
  go_wp2_with (first | (go_at_call 81; refine (hmul.out _).mono ?_; rintro e w' ⟨rfl, rfl⟩) | (refine wpList_copy_splice rfl (.tmp 31) (.tmp 32) 29 29 rfl 3 Try.underlying29 info3s (some ⟨w.heap.size, 0, none⟩) (some ⟨b, 0, none⟩) n n 1 1 rfl rfl w.heap.size 0 (repRow n 0) 3 hg0.out (List.replicate k0 (.int .i64 (-1))) hcs.out (rep_src hb.out hk3.out) hfit.out hone.out w.heap.size w hB0.out (Nat.le_refl _) ?_; intro w1 hg1 hb1; simp only [List.length_replicate]))
  have hg2 : Hid (w1.heap[w.heap.size]? = some (.cells (repRow n k0).toArray 3 (0, 0))) := by have := hg1.out; rw [repRow_splice (by omega), Nat.zero_add] at this; exact this
  have hk2 := Lib.hid hk2
  have hb1 := Lib.hid hb1
  clear hg1
  go_loopw [8] (fun v wr => ∃ k : Nat, v = .int .i64 k ∧ k ≤ n ∧ Hid (1 ≤ k ∨ n = 0) ∧ Hid (wr.heap[w.heap.size]? = some (.cells (repRow n k).toArray 3 (0, 0))) ∧ Hid (Below w.heap.size w wr)) (fun v _ => n - (intOf v).toNat)
  case atStart => exact ⟨k0, rfl, hk1, hk2, hg2, hb1⟩
  case round =>
    obtain ⟨k, rfl, hk, hk5, hg, hB⟩ := hrel
    by_cases hlt : k < n
    · have hk1 : 1 ≤ k := by rcases hk5.out with h | h; exact h; omega
      obtain ⟨m, hm⟩ : ∃ m, m = Nat.min k (n - k) := ⟨_, rfl⟩
      have hm1 : m ≤ k := by rw [hm]; exact Nat.min_le_left _ _
      have hm2 : m ≤ n - k := by rw [hm]; exact Nat.min_le_right _ _
      have hm3 : 1 ≤ m := by rw [hm]; show 1 ≤ min k (n - k); omega
      replace hm := Lib.hid hm
      go_wp2
      obtain ⟨w2, hrun, hg3, hb3⟩ := rep_copy hg.out hm.out hk hB.out
      replace hg3 := Lib.hid hg3
      replace hb3 := Lib.hid hb3
      go_region
      go_wp2
      exact ⟨⟨k + m, by go_num, by omega, .inl (by omega), hg3.out, hb3.out⟩, by simp only [intOf]; omega⟩
    · obtain rfl : k = n := by omega
      go_wp2
      go_ret
      exact ⟨rfl, hg.out, hB.out⟩
theorem drew_new (W : World) (o : Obj) (k : Nat) (hk : k = W.heap.size) : (W.alloc o).drew.heap[k]? = some o := heap_new W o k hk
theorem drew_old (W : World) (o o' : Obj) (k : Nat) (h : W.heap[k]? = some o') : (W.alloc o).drew.heap[k]? = some o' := heap_old W o o' k h

/-- Six cells of one block are written. -/
theorem set6 {W : World} {b : Nat} {a0 a1 a2 a3 a4 a5 : Value} (v0 v1 v2 v3 v4 v5 : Value) (h : W.heap[b]? = some (.cells #[a0, a1, a2, a3, a4, a5] 43 (0, 0))) :
    ((((((W.setCell ⟨b, 0, none⟩ v0).setCell ⟨b, 1, none⟩ v1).setCell ⟨b, 2, none⟩ v2).setCell ⟨b, 3, none⟩ v3).setCell ⟨b, 4, none⟩ v4).setCell ⟨b, 5, none⟩ v5).heap[b]? = some (.cells #[v0, v1, v2, v3, v4, v5] 43 (0, 0)) := by
  have h0 := set_cells (o := 0) h v0
  have h1 := set_cells (o := 1) h0 v1
  have h2 := set_cells (o := 2) h1 v2
  have h3 := set_cells (o := 3) h2 v3
  have h4 := set_cells (o := 4) h3 v4
  have h5 := set_cells (o := 5) h4 v5
  simpa using h5
theorem set6_other {W : World} {b k : Nat} (v0 v1 v2 v3 v4 v5 : Value) (h : k ≠ b) :
    ((((((W.setCell ⟨b, 0, none⟩ v0).setCell ⟨b, 1, none⟩ v1).setCell ⟨b, 2, none⟩ v2).setCell ⟨b, 3, none⟩ v3).setCell ⟨b, 4, none⟩ v4).setCell ⟨b, 5, none⟩ v5).heap[k]? = W.heap[k]? := by
  repeat rw [Below.heap_setCell _ _ _ _ h]
theorem set6_below {W w : World} {B b : Nat} (v0 v1 v2 v3 v4 v5 : Value) (h : Below B w W) (hb : B ≤ b) :
    Below B w ((((((W.setCell ⟨b, 0, none⟩ v0).setCell ⟨b, 1, none⟩ v1).setCell ⟨b, 2, none⟩ v2).setCell ⟨b, 3, none⟩ v3).setCell ⟨b, 4, none⟩ v4).setCell ⟨b, 5, none⟩ v5) :=
  (((((h.setCell (p := ⟨b, 0, none⟩) hb _).setCell (p := ⟨b, 1, none⟩) hb _).setCell (p := ⟨b, 2, none⟩) hb _).setCell (p := ⟨b, 3, none⟩) hb _).setCell (p := ⟨b, 4, none⟩) hb _).setCell (p := ⟨b, 5, none⟩) hb _
theorem set6_size (W : World) (b : Nat) (v0 v1 v2 v3 v4 v5 : Value) :
    ((((((W.setCell ⟨b, 0, none⟩ v0).setCell ⟨b, 1, none⟩ v1).setCell ⟨b, 2, none⟩ v2).setCell ⟨b, 3, none⟩ v3).setCell ⟨b, 4, none⟩ v4).setCell ⟨b, 5, none⟩ v5).heap.size = W.heap.size := by
  repeat rw [set_size]
theorem cnt_reads {w : World} {g n : Nat} (hg : w.heap[g]? = some (.cells (cntRow n fun _ => 0) 3 (0, 0))) (hn : n ≤ 1000000) : RdInts w (some ⟨g, 0, none⟩) (List.replicate n 0) := by
  refine rdInts_block (t := 3) (hg.trans ?_) (by simp; omega)
  rw [← made_cnt]
  congr 2
  apply Array.toList_inj.1
  rw [toList_madeCells_one]
  simp

/-- The first store of a farm; nothing if the farm may not be. -/
def newS (pl : List Plot) (dry : Int) : Store := if checkI pl dry = 0 then ⟨0, List.replicate pl.length (-1), List.replicate pl.length 0, [], [], [], none, 0, none, 0, none, 0, none, 0, none, 0⟩ else ⟨0, [], [], [], [], [], none, 0, none, 0, none, 0, none, 0, none, 0⟩
def NewOut (pl : List Plot) (dry : Int) (w : World) (e : Ending) (w' : World) : Prop := ∃ t : Store, e = .returned (.tuple #[storeVal t, .int .i64 (checkI pl dry)]) ∧ RdStore w' t ∧ SameS (newS pl dry) t ∧ Below w.heap.size w w'

abbrev sixNew (n X G : Nat) : Array Value := #[.int .i64 0, .slice (some ⟨X, 0, none⟩) n n, .slice (some ⟨G, 0, none⟩) n n, .slice none 0 0, .slice none 0 0, .slice none 0 0]
/-- The store's variable is written. -/
abbrev S6 (W : World) (b n X G : Nat) : World := (((((W.setCell ⟨b, 0, none⟩ (.int .i64 0)).setCell ⟨b, 1, none⟩ (.slice (some ⟨X, 0, none⟩) n n)).setCell ⟨b, 2, none⟩ (.slice (some ⟨G, 0, none⟩) n n)).setCell ⟨b, 3, none⟩ (.slice none 0 0)).setCell ⟨b, 4, none⟩ (.slice none 0 0)).setCell ⟨b, 5, none⟩ (.slice none 0 0)
structure NewFin (w : World) (n : Nat) (Wf : World) (X G : Nat) : Prop where
  out : Wf.heap[w.heap.size + 1]? = some (.cells (sixNew n X G) 43 (0, 0))
  last : Wf.heap[X]? = some (.cells (repRow n n).toArray 3 (0, 0))
  given : Wf.heap[G]? = some (.cells (cntRow n fun _ => 0) 3 (0, 0))
  below : Below w.heap.size w Wf
theorem newfin_B {w w2 : World} {n X G : Nat} {a0 a1 a2 a3 a4 a5 : Value} (hr : w2.heap[X]? = some (.cells (repRow n n).toArray 3 (0, 0))) (hg : w2.heap[G]? = some (.cells (cntRow n fun _ => 0) 3 (0, 0))) (hb : w2.heap[w.heap.size + 1]? = some (.cells #[a0, a1, a2, a3, a4, a5] 43 (0, 0))) (hB : Below w.heap.size w w2) (hX : X ≠ w.heap.size + 1) (hG : G ≠ w.heap.size + 1) :
    NewFin w n (S6 w2 (w.heap.size + 1) n X G) X G :=
  ⟨set6 _ _ _ _ _ _ hb, (set6_other _ _ _ _ _ _ hX).trans hr, (set6_other _ _ _ _ _ _ hG).trans hg, set6_below _ _ _ _ _ _ hB (by omega)⟩
theorem newfin_A {w w2 : World} {n X : Nat} {a0 a1 a2 a3 a4 a5 : Value} (hr : w2.heap[X]? = some (.cells (repRow n n).toArray 3 (0, 0))) (hb : w2.heap[w.heap.size + 1]? = some (.cells #[a0, a1, a2, a3, a4, a5] 43 (0, 0))) (hB : Below w.heap.size w w2) (hX : X ≠ w.heap.size + 1) :
    NewFin w n ((S6 w2 (w.heap.size + 1) n X w2.heap.size).alloc (.cells (cntRow n fun _ => 0) 3)) X w2.heap.size := by
  have hB6 : Below w.heap.size w (S6 w2 (w.heap.size + 1) n X w2.heap.size) := set6_below _ _ _ _ _ _ hB (by omega)
  exact ⟨heap_old _ _ _ _ (set6 _ _ _ _ _ _ hb), heap_old _ _ _ _ ((set6_other _ _ _ _ _ _ hX).trans hr), heap_new _ _ _ (set6_size _ _ _ _ _ _ _ _).symm, hB6.alloc hB6.size _⟩
theorem new_close {pl : List Plot} {dry : Int} {w Wf : World} {X G : Nat} {act : Act} (F : NewFin w pl.length Wf X G) (hck : checkI pl dry = 0) (hlen : pl.length ≤ 1000000) (h2 : act.tmps.getD 2 undef = .pointer (some ⟨w.heap.size + 1, 0, none⟩)) (h3 : act.tmps.getD 3 undef = .int .i64 0) (hd : act.defers = []) :
    bodyPost Try.prog Try.f23 (NewOut pl dry w) Exit.ret act Wf := by
  have h2' : act.tmps[2]?.getD undef = .pointer (some ⟨w.heap.size + 1, 0, none⟩) := by rw [← h2]; simp
  have h3' : act.tmps[3]?.getD undef = .int .i64 0 := by rw [← h3]; simp
  obtain ⟨c0, c1, c2, c3, c4, c5⟩ : Wf.cell? ⟨w.heap.size + 1, 0, none⟩ = some (.int .i64 0) ∧ Wf.cell? ⟨w.heap.size + 1, 1, none⟩ = some (.slice (some ⟨X, 0, none⟩) pl.length pl.length) ∧ Wf.cell? ⟨w.heap.size + 1, 2, none⟩ = some (.slice (some ⟨G, 0, none⟩) pl.length pl.length) ∧ Wf.cell? ⟨w.heap.size + 1, 3, none⟩ = some (.slice none 0 0) ∧ Wf.cell? ⟨w.heap.size + 1, 4, none⟩ = some (.slice none 0 0) ∧ Wf.cell? ⟨w.heap.size + 1, 5, none⟩ = some (.slice none 0 0) := by
    refine ⟨?_, ?_, ?_, ?_, ?_, ?_⟩ <;> simp [World.cell?, F.out]
  refine bodyPost_ret (v := .tuple #[.agg (sixNew pl.length X G), .int .i64 0]) (by simp [results, Try.results23, go_sem, h2', h3', c0, c1, c2, c3, c4, c5]) hd ?_
  refine ⟨⟨0, List.replicate pl.length (-1), List.replicate pl.length 0, [], [], [], some ⟨X, 0, none⟩, pl.length, some ⟨G, 0, none⟩, pl.length, none, 0, none, 0, none, 0⟩, ?_, ?_, ?_, F.below⟩
  · rw [hck]; simp [storeVal, storeCells]
  · exact ⟨rep_reads F.last hlen, cnt_reads F.given hlen, ⟨⟨by simp, by simp⟩, by simp⟩, ⟨by simp, by simp⟩, ⟨by simp, by simp⟩⟩
  · unfold newS; rw [if_pos hck]; exact ⟨rfl, rfl, rfl, rfl, rfl, rfl, fun i h1 _ => absurd h1 (Nat.not_lt_zero _)⟩
end Go.Proofs.Ytpgkhlpepckfgaa
end
section
namespace Go.Proofs.Ytpgkhlpepckfgaa
open Go.RowKit Go.Lib

theorem flat_news {α : Type} {enc : α → List Value} {sz : Nat} (hl : ∀ x, (enc x).length = sz) (hsz : 0 < sz) {w : World} {ad : Addr} {l : List α} (h : FlatRow enc sz w (some ad) l) : ∀ j u, (l.flatMap enc)[j]? = some u → w.cell? (ad.add j) = some u := fun j u hu => by
  have hlen := flat_len (sz := sz) (enc := enc) hl l
  have hj := (List.getElem?_eq_some_iff.1 hu).1
  rw [hlen] at hj
  have hi : j / sz < l.length := (Nat.div_lt_iff_lt_mul hsz).2 hj
  obtain ⟨ad', e, hc⟩ := h.2 (j / sz) l[j / sz] (by simp [hi])
  cases e
  have hr : j % sz < sz := Nat.mod_lt _ hsz
  have hv : ∃ v, (enc l[j / sz])[j % sz]? = some v := ⟨(enc l[j / sz])[j % sz]'(by rw [hl]; exact hr), by simp⟩
  obtain ⟨v, hv⟩ := hv
  have h1 := flat_get (sz := sz) (enc := enc) hl l (j / sz) _ (j % sz) v (by simp [hi]) hv
  have e2 : j / sz * sz + j % sz = j := by rw [Nat.mul_comm]; exact Nat.div_add_mod j sz
  have h2 := hc (j % sz) v hv
  rw [e2] at h1 h2
  rw [h1] at hu
  cases hu
  exact h2
theorem heaps_one (l : List Heap) : ∀ u ∈ l.flatMap encHeap, u.oneCell' = true := fun u hu => by
  obtain ⟨p, _, hp⟩ := List.mem_flatMap.1 hu
  simp [encHeap] at hp
  rcases hp with rfl | rfl | rfl | rfl | rfl | rfl | rfl <;> rfl

/-- A copy of heaps: a row of the call's own. -/
def CloneHOut (l : List Heap) (w : World) (e : Ending) (w' : World) : Prop := ∃ A c, e = .returned (.slice A l.length c) ∧ w'.ownsRow w.heap.size 77 7 (.slice A l.length c) l.length (l.flatMap encHeap) ∧ Below w.heap.size w w'
set_option maxHeartbeats 2000000 in
set_option maxRecDepth 100000 in
theorem cloneH_any (A : Option Addr) (c : Nat) (l : List Heap) (w : World) (h : RdHeaps w A l) (hl : l.length ≤ 1000000) :
    Calls Try.prog 108 #[.slice A l.length c] w (CloneHOut l w) := by
  have hq : ∀ (w : World) (a : Option Addr) (n c n' c' : Nat), (binOp .eql 40 (.slice a n c) (.slice none n' c')).run Try.prog w = .ok (.bool a.isNone) w := fun w a n c n' c' => Lib.run_eql_slice_nil w _ _ a n c n' c' Try.underlying40
  cases A with
  | none =>
    have h0 : l = [] := by
      cases l with
      | nil => rfl
      | cons a l => obtain ⟨ad, e, _⟩ := h.1.2 0 a rfl; cases e
    subst h0
    go_enter Try.func108, Try.ntmps108
    go_wp2
    go_ret
    exact ⟨none, 0, rfl, World.ownsRow_nil _ _ _ _, Below.refl _ _⟩
  | some ad =>
    have hb0 : Below w.heap.size w (w.alloc (.cells #[] 77)) := (Below.refl _ w).alloc (Nat.le_refl _) _
    have hnews := Lib.hid (flat_news (sz := 7) encHeap_len (by decide) (RdHeaps.below h hb0).1)
    have hown : Hid ((w.alloc (.cells #[] 77)).ownsRow w.heap.size 77 7 (.slice (some ⟨w.heap.size, 0, none⟩) 0 0) 0 []) := World.ownsRow_lit w #[] 0 (Nat.le_refl _) (by decide) rfl
    have hlen := Lib.hid (flat_len (sz := 7) (enc := encHeap) encHeap_len l)
    have hone := Lib.hid (heaps_one l)
    have h63 : Hid (0 + l.length ≤ maxLen) := by unfold Hid maxLen; omega
    have hby : Hid ((0 + l.length) * 80 ≤ 140737488355328) := by unfold Hid; omega
    have hbase : Hid (w.heap.size ≤ (w.alloc (.cells #[] 77)).heap.size) := by unfold Hid; rw [World.size_alloc]; omega
    replace hb0 := Lib.hid hb0
    replace h := Lib.hid h
    replace hl := Lib.hid hl
    go_enter Try.func108, Try.ntmps108
    go_wp2_with (at_builtin; refine wp_app _ rfl (.tmp 5) (.tmp 6) 40 rfl w.heap.size 77 7 80 Try.underlying40 info77 rfl (by decide) _ 0 [] rfl hown.out ad l.length c (l.flatMap encHeap) rfl hlen.out hnews.out hone.out h63.out hby.out hbase.out ?_; intro v' w1 hown1 hgrow hnear; have hP : Hid (w1.ownsRow w.heap.size 77 7 v' l.length (l.flatMap encHeap) ∧ Below w.heap.size w w1) := ⟨by rw [Nat.zero_add, List.nil_append] at hown1; exact hown1, hb0.out.grown hgrow hbase.out (fun k e => by have := hown.out.lt k e; omega)⟩; clear hown1 hgrow hnear)
    go_ret
    have : ∃ A' c', v' = .slice A' l.length c' := by
      rcases hP.out.1.2 with ⟨rfl, h0⟩ | ⟨g, cap, cur, rfl, _⟩
      · exact ⟨none, 0, by rw [h0]⟩
      · exact ⟨_, cap, rfl⟩
    obtain ⟨A', c', rfl⟩ := this
    exact ⟨A', c', rfl, hP.out.1, hP.out.2⟩

/-- Rows that are made one behind the other. -/
theorem Rows.start {B p1 p3 p5 : Nat} {x : Option Nat} {s : Store} {W : World} (hl : SlRow W B (.slice s.la s.last.length s.lc) s.last) (hg : SlRow W B (.slice s.ga s.given.length s.gc) s.given)
    (hh : W.ownsRow B 77 7 (.slice s.ha s.heaps.length s.hc) s.heaps.length (s.heaps.flatMap encHeap)) (hu : RdParts W s.ua s.used) (hw : RdParts W s.wa s.waste) (hp : ∀ h ∈ s.heaps, RdParts W h.pa h.parts ∧ h.name.size ≤ 140737488351232)
    (small : s.last.length ≤ 1000 ∧ s.given.length ≤ 1000 ∧ s.heaps.length ≤ 1000) (h13 : p1 ≤ p3) (h35 : p3 ≤ p5)
    (e1 : ∀ k, blk s.la = some k → p1 ≤ k ∧ k < p3 ∧ blk s.ga ≠ some k) (e2 : ∀ k, blk s.ga = some k → p1 ≤ k ∧ k < p3) (e3 : ∀ k, blk s.ua = some k → p3 ≤ k ∧ k < p5) (e4 : ∀ k, blk s.wa = some k → p3 ≤ k ∧ k < p5) (e5 : ∀ k, blk s.ha = some k → p5 ≤ k)
    (e6 : ∀ h ∈ s.heaps, ∀ k, h.parts ≠ [] → blk h.pa = some k → k < p1 ∧ x ≠ some k) (e7 : ∀ k, x = some k → k < p1 ∧ k < W.heap.size) : Rows B x s W := by
  refine ⟨hl, hg, hh, hu, hw, hp, small, fun k e => ⟨(e1 k e).2.2, fun e' => ?_, fun e' => ?_⟩, fun k e => ⟨fun e' => ?_, fun e' => ?_⟩, fun k e e' => ?_, fun k e => ?_, fun k e => (e7 k e).2⟩
  · have := e1 k e; have := e5 k e'; omega
  · have := e1 k e; have := e7 k e'; omega
  · have := e2 k e; have := e5 k e'; omega
  · have := e2 k e; have := e7 k e'; omega
  · have := e5 k e; have := e7 k e'; omega
  · rcases e with ⟨h1, h2⟩ | ⟨h1, h2⟩ | ⟨g, hg, h1, h2⟩
    · have := e3 k h2
      exact ⟨fun e' => by have := e1 k e'; omega, fun e' => by have := e2 k e'; omega, fun e' => by have := e5 k e'; omega, fun e' => by have := e7 k e'; omega⟩
    · have := e4 k h2
      exact ⟨fun e' => by have := e1 k e'; omega, fun e' => by have := e2 k e'; omega, fun e' => by have := e5 k e'; omega, fun e' => by have := e7 k e'; omega⟩
    · have := (e6 g hg k h1 h2).1
      exact ⟨fun e' => by have := e1 k e'; omega, fun e' => by have := e2 k e'; omega, fun e' => by have := e5 k e'; omega, (e6 g hg k h1 h2).2⟩
/-- The rows need not be apart from x any more, and may begin deeper. -/
theorem Rows.loose {B B' : Nat} {x : Option Nat} {s : Store} {W : World} (h : Rows B x s W) (hB : B' ≤ B) : Rows B' none s W :=
  ⟨ownsRow_raise h.last hB, ownsRow_raise h.given hB, ownsRow_raise h.heaps hB, h.used, h.waste, h.parts, h.small, fun k e => ⟨(h.a1 k e).1, (h.a1 k e).2.1, fun e => (by cases e)⟩, fun k e => ⟨(h.a2 k e).1, fun e => (by cases e)⟩, fun k _ e => (by cases e),
    fun k e => ⟨(h.off k e).1, (h.off k e).2.1, (h.off k e).2.2.1, fun e => (by cases e)⟩, fun k e => (by cases e)⟩
/-- A block that is new is apart from all. -/
theorem Rows.boxed {B : Nat} {s : Store} {W W' : World} (h : Rows B none s W) {b : Nat} (hb : Below W.heap.size W W') (h1 : W.heap.size ≤ b) (h2 : b < W'.heap.size) : Rows B (some b) s W' := by
  have h' := h.later hb
  refine ⟨h'.last, h'.given, h'.heaps, h'.used, h'.waste, h'.parts, h'.small, fun k e => ⟨(h'.a1 k e).1, (h'.a1 k e).2.1, fun e1 => ?_⟩, fun k e => ⟨(h'.a2 k e).1, fun e1 => ?_⟩, fun k e e1 => ?_, fun k e => ⟨(h'.off k e).1, (h'.off k e).2.1, (h'.off k e).2.2.1, fun e1 => ?_⟩, fun k e => ?_⟩
  · have := (h.lastLt e).2; cases e1; omega
  · have := (h.givenLt e).2; cases e1; omega
  · have := (h.heapsLt e).2; cases e1; omega
  · have := h.readsLt e; cases e1; omega
  · cases e; exact h2

theorem flat_ints : ∀ l : List Int, l.flatMap encI = l.map (Value.int .i64)
  | [] => rfl
  | a :: l => by simp [List.flatMap_cons, encI, flat_ints l]
/-- Numbers are copied into a block of zeros. -/
theorem wp_copy_ints {w : World} {ops : Array Oper} {rest : List Oper} {o : Oper} {a : Act} {Q : Exit → Act → World → Prop} (hgd : o.guard = none) (d s : Operand)
    (ho : o.op = .call { callee := .builtin .copy, args := #[d, s], argTypes := #[29, 29] }) (g : Nat) (A : Option Addr) (l : List Int) (c : Nat) (hd : a.eval d = .slice (some ⟨g, 0, none⟩) l.length l.length) (hs : a.eval s = .slice A l.length c)
    (hg : w.heap[g]? = some (.cells (repRow l.length 0).toArray 3 (0, 0))) (hr : RdInts w A l)
    (h : ∀ w', w'.heap[g]? = some (.cells (l.map (Value.int .i64)).toArray 3 (0, 0)) → (∀ k, k ≠ g → w'.heap[k]? = w.heap[k]?) → (∀ B, B ≤ g → Below B w w') → wpList Try.prog ops Q rest (a.put o.dst (goInt l.length)) w') :
    wpList Try.prog ops Q (o :: rest) a w := by
  have hmin : Nat.min l.length l.length = l.length := Nat.min_self _
  have hone : ∀ v ∈ l.map (Value.int .i64), v.oneCell' = true := fun v hv => by
    obtain ⟨x, _, rfl⟩ := List.mem_map.1 hv; rfl
  by_cases h0 : l = []
  · subst h0
    refine wpList_copy_nothing hgd d s 29 29 ho 3 Try.underlying29 info3s _ _ _ _ _ _ hd hs rfl ?_
    exact h w (by simpa [repRow] using hg) (fun _ _ => rfl) (fun B _ => Below.refl _ _)
  · have hpos : 0 < l.length := List.length_pos_iff.2 h0
    obtain ⟨ad, e, _⟩ := hr.2 0 l[0] (by simp)
    subst e
    have hsrc : ∀ j v, (l.map (Value.int .i64))[j]? = some v → w.cell? (ad.add j) = some v := fun j v hv => by
      refine flat_news (sz := 1) (enc := encI) (fun _ => rfl) (by decide) hr j v ?_
      rw [← hv, flat_ints]
    refine wpList_copy_own hgd d s 29 29 ho 3 Try.underlying29 info3s g 0 l.length l.length ad l.length c hd hs _ 3 hg (l.map (Value.int .i64)) (by simp [hmin]) hsrc (by simp [repRow]) hone ?_
    have e1 : ((repRow l.length 0).toArray.toList.take 0 ++ (l.map (Value.int .i64) ++ (repRow l.length 0).toArray.toList.drop (0 + (l.map (Value.int .i64)).length))).toArray = (l.map (Value.int .i64)).toArray := by simp [repRow]
    rw [e1, List.length_map]
    exact h _ (setRow_heap _ _ _ _ _ _ hg) (fun k hk => setRow_other _ _ _ _ hk) (fun B hB => below_setRow (Below.refl _ _) hB _)
theorem slRow_block {w : World} {B g : Nat} {l : List Int} (hg : w.heap[g]? = some (.cells (l.map (Value.int .i64)).toArray 3 (0, 0))) (hB : B ≤ g) (hl : l.length ≤ 1000000) : SlRow w B (.slice (some ⟨g, 0, none⟩) l.length l.length) l :=
  ⟨by simp, .inr ⟨g, l.length, _, rfl, hB, hg, Nat.le_refl _, by unfold maxLen; omega, by simp, by simp [List.take_of_length_le]⟩⟩
end Go.Proofs.Ytpgkhlpepckfgaa
end
