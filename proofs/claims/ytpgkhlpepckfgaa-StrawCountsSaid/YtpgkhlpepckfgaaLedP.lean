/-
  The ledger: plain.
-/
import Derived.Test.YtpgkhlpepckfgaaCutW
import Derived.Test.YtpgkhlpepckfgaaSCheck
import Derived.Test.YtpgkhlpepckfgaaSStored
import Derived.Test.YtpgkhlpepckfgaaBundP
namespace Go.Proofs.Ytpgkhlpepckfgaa
open Go.RowKit Go.Lib

structure Cnt where
  given : Int
  used : Int
  left : Int
  waste : Int
deriving Inhabited
def encCnt (x : Cnt) : List Value := [.int .i64 x.given, .int .i64 x.used, .int .i64 x.left, .int .i64 x.waste]
def cval (x : Cnt) : Value := .agg #[.int .i64 x.given, .int .i64 x.used, .int .i64 x.left, .int .i64 x.waste]
abbrev RdCnts (w : World) (A : Option Addr) (l : List Cnt) : Prop := FlatRow encCnt 4 w A l
def cntAt (s : Store) (i : Nat) : Cnt := ⟨s.given.getD i 0, ofL s.used i, leftL s.heaps i, ofL s.waste i⟩
def cntsL (s : Store) (n : Nat) : List Cnt := (List.range n).map (cntAt s)
theorem cntsL_len (s : Store) (n : Nat) : (cntsL s n).length = n := by simp [cntsL]
theorem cntsL_succ (s : Store) (n : Nat) : cntsL s (n + 1) = cntsL s n ++ [cntAt s n] := by simp [cntsL, List.range_succ]
/-- The ledger and the error. -/
def ledP (pl : List Plot) (dry : Int) (s : Store) : List Cnt × Int := if checkS pl dry s ≠ 0 then ([], checkS pl dry s) else (cntsL s pl.length, 0)
theorem ledP_bad {pl : List Plot} {dry : Int} {s : Store} (h : checkS pl dry s ≠ 0) : ledP pl dry s = ([], checkS pl dry s) := by unfold ledP; rw [if_pos h]
theorem ledP_ok {pl : List Plot} {dry : Int} {s : Store} (h : checkS pl dry s = 0) : ledP pl dry s = (cntsL s pl.length, 0) := by unfold ledP; rw [if_neg (by simp [h])]
theorem info55 : (Try.prog.info? 55).map (fun i => (i.zero, i.size, i.bytes)) = some (some (.agg #[.int .i64 0, .int .i64 0, .int .i64 0, .int .i64 0]), 4, 32) := by kernel_rfl
def CRow (w : World) (base : Nat) (v : Value) (l : List Cnt) : Prop := w.ownsRow base 55 4 v l.length (l.flatMap encCnt)
theorem CRow.nil (w : World) (base : Nat) : CRow w base (.slice none 0 0) [] := World.ownsRow_nil _ _ _ _
theorem CRow.same {w w1 : World} {base : Nat} {v : Value} {l : List Cnt} (h : CRow w base v l) (hs : ∀ k, v.ownBlock = some k → w1.heap[k]? = w.heap[k]?) : CRow w1 base v l := ownsRow_same h hs
theorem CRow.reads {w : World} {base : Nat} {v : Value} {l : List Cnt} (h : CRow w base v l) (hl : l.length ≤ 140737488351232) : ∃ A c, v = .slice A l.length c ∧ RdCnts w A l := by
  rcases h.2 with ⟨rfl, h0⟩ | ⟨g, cap, cur, rfl, _⟩
  · have : l = [] := List.eq_nil_of_length_eq_zero h0
    subst this
    exact ⟨none, 0, rfl, by simp, by simp⟩
  · refine ⟨_, cap, rfl, hl, fun i x hx => ⟨_, rfl, fun j u hu => ?_⟩⟩
    exact h.cells (g := g) rfl _ _ (flat_get (sz := 4) (fun _ => rfl) l i x j u hx hu)
theorem CRow.snoc {w : World} {base : Nat} {v : Value} {l : List Cnt} {p : Cnt} (h : w.ownsRow base 55 4 v (l.length + 1) (l.flatMap encCnt ++ encCnt p)) : CRow w base v (l ++ [p]) := by
  unfold CRow
  rw [List.length_append, List.flatMap_append]
  simpa using h
/-- What the ledger's loop has in memory: a row of its own. -/
structure LedI (w : World) (A : Option Addr) (c : Nat) (pl : List Plot) (dry : Int) (s : Store) (k : Nat) (v : Value) (W : World) : Prop extends FS w A c pl dry s W where
  row : CRow W (w.heap.size + 2) v (cntsL s k)
section
variable {w W w1 : World} {A : Option Addr} {c : Nat} {pl : List Plot} {dry : Int} {s : Store} {k : Nat} {v v' : Value} {o : Obj}
theorem LedI.later (h : LedI w A c pl dry s k v W) (hb : Below W.heap.size W w1) : LedI w A c pl dry s k v w1 :=
  ⟨h.toFS.later hb, h.row.same fun j e => hb.block j (h.row.lt j e).2⟩
theorem LedI.push (h : LedI w A c pl dry s k v W) (hown : w1.ownsRow (w.heap.size + 2) 55 4 v' ((cntsL s k).length + 1) ((cntsL s k).flatMap encCnt ++ encCnt (cntAt s k))) (hgrow : (W.alloc o).grownBy w1 v.ownBlock) : LedI w A c pl dry s (k + 1) v' w1 := by
  have b1 : ∀ j, v.ownBlock = some j → w.heap.size + 2 ≤ j ∧ j < W.heap.size := fun j hj => h.row.lt j hj
  have hbl := h.toFS.size
  refine ⟨⟨(h.below.alloc h.below.size _).grown hgrow (by rw [World.size_alloc]; have := h.below.size; omega) (fun j hj => by have := (b1 j hj).1; omega), ?_, ?_, ?_⟩, ?_⟩
  · exact ((hgrow.block _ (by rw [World.size_alloc]; omega) (fun e => by have := (b1 _ e.symm).1; omega)).trans (Below.heap_alloc _ _ _ (by omega))).trans h.farm
  · exact ((hgrow.block _ (by rw [World.size_alloc]; omega) (fun e => by have := (b1 _ e.symm).1; omega)).trans (Below.heap_alloc _ _ _ (by omega))).trans h.store
  · have := hgrow.size; rw [World.size_alloc] at this; omega
  · rw [cntsL_succ]; exact CRow.snoc hown
end
theorem LedI.base {w W : World} {A : Option Addr} {c : Nat} {pl : List Plot} {dry : Int} {s : Store} {k : Nat} {v : Value} {o : Obj} (h : LedI w A c pl dry s k v W) : w.heap.size + 2 ≤ (W.alloc o).heap.size := by
  rw [World.size_alloc]; have := h.size; omega
theorem LedI.push' {w W w1 : World} {A : Option Addr} {c : Nat} {pl : List Plot} {dry : Int} {s : Store} {k : Nat} {v v' : Value} {o : Obj} {p : Cnt} (h : LedI w A c pl dry s k v W) (hp : cntAt s k = p) (hown : w1.ownsRow (w.heap.size + 2) 55 4 v' ((cntsL s k).length + 1) ((cntsL s k).flatMap encCnt ++ encCnt p)) (hgrow : (W.alloc o).grownBy w1 v.ownBlock) : LedI w A c pl dry s (k + 1) v' w1 := by
  subst hp; exact h.push hown hgrow
theorem LedI.arow {w W : World} {A : Option Addr} {c : Nat} {pl : List Plot} {dry : Int} {s : Store} {k : Nat} {v : Value} {o : Obj} (h : LedI w A c pl dry s k v W) : (W.alloc o).ownsRow (w.heap.size + 2) 55 4 v (cntsL s k).length ((cntsL s k).flatMap encCnt) := (h.later ((Below.refl _ _).alloc (Nat.le_refl _) _)).row
theorem new_four (W : World) (p : Cnt) : ∀ j u, (encCnt p)[j]? = some u → (W.alloc (.cells #[.int .i64 p.given, .int .i64 p.used, .int .i64 p.left, .int .i64 p.waste] 55)).cell? ((⟨W.heap.size, 0, none⟩ : Addr).add j) = some u := fun j u hu => by
  rw [lit_add]
  have := heap_new W (.cells #[.int .i64 p.given, .int .i64 p.used, .int .i64 p.left, .int .i64 p.waste] 55) _ rfl
  simp only [World.cell?, this]
  simpa [encCnt] using hu
def LedOut (r : List Cnt × Int) (w : World) (e : Ending) (w' : World) : Prop := ∃ A c, e = .returned (.tuple #[.slice A r.1.length c, .int .i64 r.2]) ∧ RdCnts w' A r.1 ∧ Below w.heap.size w w'
theorem cnts_nil (w : World) : RdCnts w none [] := ⟨by simp, by simp⟩
/-- What a store that is found good has. -/
structure GoodS (pl : List Plot) (s : Store) : Prop where
  plots : pl.length ≤ 12
  given : s.given.length = pl.length
  used : Mild s.used
  waste : Mild s.waste
  heaps : MildH s.heaps
  uin : ∀ p ∈ s.used, 0 ≤ p.plot ∧ p.plot < (pl.length : Int)
  win : ∀ p ∈ s.waste, 0 ≤ p.plot ∧ p.plot < (pl.length : Int)
  hin : ∀ x ∈ s.heaps, ∀ p ∈ x.parts, 0 ≤ p.plot ∧ p.plot < (pl.length : Int)
theorem good_store {pl : List Plot} {dry : Int} {s : Store} (h : checkS pl dry s = 0) (hu : s.used.length ≤ 1000000) (hw : s.waste.length ≤ 1000000) (hh : ∀ x ∈ s.heaps, x.parts.length ≤ 1000000) : GoodS pl s := by
  have hc : checkI pl dry = 0 := Decidable.byContradiction fun hc => by rw [checkS_bad hc] at h; exact hc h
  have hs : storeB pl s = true := by
    cases q : storeB pl s with
    | false => rw [checkS_not hc q] at h; cases h
    | true => rfl
  rw [storeB_eq, Bool.and_eq_true, Bool.and_eq_true, Bool.and_eq_true] at hs
  have q' := hs.1.1.1
  simp only [storeHead, Bool.and_eq_true, decide_eq_true_eq] at q'
  obtain ⟨⟨⟨⟨⟨t1, t2⟩, t3⟩, t4⟩, t5⟩, t6⟩ := q'
  refine ⟨(checkI_zero hc).1, t3, proper_mild t5 hu, proper_mild t6 hw, ⟨by omega, fun x hx => ?_⟩, proper_in t5, proper_in t6, fun x hx => ?_⟩ <;> obtain ⟨j, hj, rfl⟩ := List.mem_iff_getElem.1 hx
  · exact proper_mild (heapB_proper (checkS_heap h hj)) (hh _ hx)
  · exact proper_in (heapB_proper (checkS_heap h hj))
end Go.Proofs.Ytpgkhlpepckfgaa
