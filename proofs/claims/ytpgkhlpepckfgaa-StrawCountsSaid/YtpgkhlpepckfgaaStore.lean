/-
  A store as the walks read it: heaps, parts, what each field gave; and whether one may be, in plain numbers.
-/
import Derived.Test.YtpgkhlpepckfgaaCPure
namespace Go.Proofs.Ytpgkhlpepckfgaa
open Go.RowKit Go.Lib

structure Portion where
  plot : Int
  loads : Int
deriving DecidableEq
def encPortion (p : Portion) : List Value := [.int .i64 p.plot, .int .i64 p.loads]
def RdParts (w : World) (A : Option Addr) (l : List Portion) : Prop := FlatRow encPortion 2 w A l
theorem RdParts.below {w w1 : World} {A : Option Addr} {l : List Portion} (h : RdParts w A l) (hb : Below w.heap.size w w1) : RdParts w1 A l := FlatRow.below h hb

/-- A heap; pa, pc: where its parts lie. -/
structure Heap where
  name : ByteArray
  crop : Int
  stage : Int
  parts : List Portion
  per : Int
  wet : Span
  pa : Option Addr
  pc : Nat
def encHeap (h : Heap) : List Value := [.string h.name, .int .i64 h.crop, .int .i64 h.stage, .slice h.pa h.parts.length h.pc, .int .i64 h.per, .int .i64 h.wet.lo, .int .i64 h.wet.hi]
def RdHeaps (w : World) (A : Option Addr) (l : List Heap) : Prop := FlatRow encHeap 7 w A l ∧ ∀ h ∈ l, RdParts w h.pa h.parts ∧ h.name.size ≤ 140737488351232
theorem RdHeaps.below {w w1 : World} {A : Option Addr} {l : List Heap} (h : RdHeaps w A l) (hb : Below w.heap.size w w1) : RdHeaps w1 A l := ⟨h.1.below hb, fun x hx => ⟨(h.2 x hx).1.below hb, (h.2 x hx).2⟩⟩

/-- A store; the rest: where its lists lie. -/
structure Store where
  year : Int
  last : List Int
  given : List Int
  heaps : List Heap
  used : List Portion
  waste : List Portion
  la : Option Addr
  lc : Nat
  ga : Option Addr
  gc : Nat
  ha : Option Addr
  hc : Nat
  ua : Option Addr
  uc : Nat
  wa : Option Addr
  wc : Nat
abbrev storeCells (s : Store) : Array Value := #[.int .i64 s.year, .slice s.la s.last.length s.lc, .slice s.ga s.given.length s.gc, .slice s.ha s.heaps.length s.hc, .slice s.ua s.used.length s.uc, .slice s.wa s.waste.length s.wc]
abbrev storeVal (s : Store) : Value := .agg (storeCells s)
structure RdStore (w : World) (s : Store) : Prop where
  last : RdInts w s.la s.last
  given : RdInts w s.ga s.given
  heaps : RdHeaps w s.ha s.heaps
  used : RdParts w s.ua s.used
  waste : RdParts w s.wa s.waste
theorem RdStore.below {w w1 : World} {s : Store} (h : RdStore w s) (hb : Below w.heap.size w w1) : RdStore w1 s := ⟨h.last.below hb, h.given.below hb, h.heaps.below hb, h.used.below hb, h.waste.below hb⟩

theorem FlatRow.at7 {α : Type} {enc : α → List Value} {w : World} {A : Option Addr} {l : List α} (h : FlatRow enc 7 w A l) {i : Nat} (hi : i < l.length)
    {v0 v1 v2 v3 v4 v5 v6 : Value} (he : enc l[i] = [v0, v1, v2, v3, v4, v5, v6]) : ∃ ad, A = some ad ∧ w.cell? (ad.add (i * 7)) = some v0 ∧ w.cell? ⟨(ad.add (i * 7)).block, (ad.add (i * 7)).off + 1, none⟩ = some v1 ∧ w.cell? ⟨(ad.add (i * 7)).block, (ad.add (i * 7)).off + 2, none⟩ = some v2 ∧
      w.cell? ⟨(ad.add (i * 7)).block, (ad.add (i * 7)).off + 3, none⟩ = some v3 ∧ w.cell? ⟨(ad.add (i * 7)).block, (ad.add (i * 7)).off + 4, none⟩ = some v4 ∧ w.cell? ⟨(ad.add (i * 7)).block, (ad.add (i * 7)).off + 5, none⟩ = some v5 ∧ w.cell? ⟨(ad.add (i * 7)).block, (ad.add (i * 7)).off + 6, none⟩ = some v6 := by
  obtain ⟨ad, e, hc⟩ := h.2 i l[i] (by simp [hi])
  rw [he] at hc
  refine ⟨ad, e, hc 0 _ rfl, ?_, ?_, ?_, ?_, ?_, ?_⟩
  · rw [← addr_field ad (i * 7) 1 (by decide)]; exact hc 1 _ rfl
  · rw [← addr_field ad (i * 7) 2 (by decide)]; exact hc 2 _ rfl
  · rw [← addr_field ad (i * 7) 3 (by decide)]; exact hc 3 _ rfl
  · rw [← addr_field ad (i * 7) 4 (by decide)]; exact hc 4 _ rfl
  · rw [← addr_field ad (i * 7) 5 (by decide)]; exact hc 5 _ rfl
  · rw [← addr_field ad (i * 7) 6 (by decide)]; exact hc 6 _ rfl

/-! Plain. -/
def allB (f : Nat → Bool) (n : Nat) : Bool := (List.range n).all f
theorem allB_end {f : Nat → Bool} {n : Nat} (h : ∀ j, j < n → f j = true) : allB f n = true := List.all_eq_true.2 fun x hx => h x (List.mem_range.1 hx)
theorem allB_stop {f : Nat → Bool} {n k : Nat} (hk : k < n) (h : f k = false) : allB f n = false := by
  refine Bool.eq_false_iff.2 fun e => ?_
  have := List.all_eq_true.1 e k (List.mem_range.2 hk)
  rw [h] at this; cases this
theorem allB_get {f : Nat → Bool} {n k : Nat} (h : allB f n = true) (hk : k < n) : f k = true := List.all_eq_true.1 h k (List.mem_range.2 hk)
theorem succ_all {f : Nat → Bool} {k : Nat} (h : ∀ j, j < k → f j = true) (hk : f k = true) : ∀ j, j < k + 1 → f j = true := fun j hj => by
  rcases Nat.lt_succ_iff_lt_or_eq.1 hj with h1 | rfl
  · exact h j h1
  · exact hk

instance : Inhabited Portion := ⟨⟨0, 0⟩⟩
instance : Inhabited Heap := ⟨⟨⟨#[]⟩, 0, 0, [], 0, ⟨0, 0⟩, none, 0⟩⟩

/-- How many loads parts have together. -/
def sumL (l : List Portion) : Int := (l.map (·.loads)).sum
/-- How many loads of parts are of a field. -/
def ofL (l : List Portion) (k : Int) : Int := (l.map fun p => if p.plot = k then p.loads else 0).sum
def leftL (l : List Heap) (k : Int) : Int := (l.map fun h => ofL h.parts k).sum
def heapsL (l : List Heap) : Int := (l.map fun h => sumL h.parts).sum
def totalS (s : Store) : Int := sumL s.used + sumL s.waste + heapsL s.heaps

/-- Whether the part at j may stand there, of n fields. -/
def partAt (n : Nat) (l : List Portion) (j : Nat) : Bool :=
  inB (l.getD j default).plot 0 ((n : Int) - 1) && inB (l.getD j default).loads 1 100000 && (decide (j = 0) || decide ((l.getD (j - 1) default).plot ≠ (l.getD j default).plot))
def properB (n : Nat) (l : List Portion) : Bool := allB (partAt n l) l.length
/-- Whether a heap may be, but for its name being another one's. -/
def heapB (pl : List Plot) (h : Heap) : Bool :=
  nameB h.name && cropB h.crop && inB h.stage 1 3 && decide (h.parts.length ≠ 0) && properB pl.length h.parts && spanB h.wet.lo h.wet.hi 0 1000 &&
    h.parts.all (fun p => decide ((plotAt' pl p.plot).crop = h.crop)) && (if h.stage = 3 then inB h.per 1 100 && decide (sumL h.parts % h.per = 0) else decide (h.per = 0))
where plotAt' (pl : List Plot) (i : Int) : Plot := pl.getD i.toNat default
def heapNew (l : List Heap) (i : Nat) : Bool := (l.take i).all fun h => decide (h.name ≠ (l.getD i default).name)
def heapAt (pl : List Plot) (l : List Heap) (i : Nat) : Bool := heapNew l i && heapB pl (l.getD i default)
def fieldAt (s : Store) (i : Nat) : Bool := inB (s.last.getD i 0) (-1) s.year && decide (s.given.getD i 0 = leftL s.heaps i + ofL s.used i + ofL s.waste i)
/-- Whether a store may be. -/
def storeB (pl : List Plot) (s : Store) : Bool :=
  inB s.year 0 100 && decide (s.last.length = pl.length) && decide (s.given.length = pl.length) && decide (s.heaps.length ≤ 16) && properB pl.length s.used && properB pl.length s.waste &&
    allB (heapAt pl s.heaps) s.heaps.length && decide (totalS s ≤ 100000) && allB (fieldAt s) pl.length
/-- The error of a store. -/
def checkS (pl : List Plot) (dry : Int) (s : Store) : Int := if checkI pl dry ≠ 0 then checkI pl dry else if storeB pl s = true then 0 else 8
end Go.Proofs.Ytpgkhlpepckfgaa
