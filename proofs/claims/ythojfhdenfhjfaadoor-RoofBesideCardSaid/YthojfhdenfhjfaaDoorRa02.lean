/-
  When a string is a name: told over its bytes, and over its runes. No program is named here. Plain data of the roof layer: points, sides, faces, openings, and what the checks of a roof say. No program is named here. Plain geometry of outlines that may be: an edge has all corners to its left and one strictly; two outlines apart have no edge in common, one way; the edge beside an edge runs the other way, and the edge beside that one is the first. No program is named here. The check of a roof, stage by stage: plain. No program is named here. The rows of a roof's edges, and where each stands. No program is named here. Quotients in lowest terms. No program is named here.
-/
import Derived.Test.YthojfhdenfhjfaaDoorRa01
import Derived.Lib.DecodeN
import Derived.Shelf.GgClosure.StringsIndexFunc
set_option linter.all false
set_option linter.unusedVariables false
set_option linter.unusedSimpArgs false
section
namespace Go.Proofs.YthojfhdenfhjfaaDoor
open Go.Lib

/-- A byte that a name may have behind its first one. -/
def nameByte (b : Nat) : Bool := (decide (97 ≤ b) && decide (b ≤ 122)) || (decide (48 ≤ b) && decide (b ≤ 57)) || decide (b = 45)
/-- A rune that no name has. -/
def badRune (r : Nat) : Bool := !nameByte r
/-- All bytes of a string are such. -/
def allNameBytes (s : ByteArray) : Bool := decide (∀ i, i < s.size → nameByte (s.get! i).toNat = true)
/-- A name: 1 to 16 bytes, the first one a letter. -/
def nameB (s : ByteArray) : Bool := decide (1 ≤ s.size) && decide (s.size ≤ 16) && decide (97 ≤ (s.get! 0).toNat) && decide ((s.get! 0).toNat ≤ 122) && allNameBytes s

theorem decodeN_high (n b0 b1 b2 b3 : Nat) (h : 128 ≤ b0) (_hb : b0 < 256) : 128 ≤ (decodeN n b0 b1 b2 b3).1 := by
  unfold decodeN
  repeat' (first | split | (simp only []; omega))

theorem badRune_high {r : Nat} (h : 128 ≤ r) : badRune r = true := by
  simp [badRune, nameByte]; omega

theorem idx_from (s : ByteArray) : ∀ (f pos : Nat), s.size ≤ pos + f → (0 ≤ idxFuncFrom badRune true s f pos ↔ ¬ (∀ i, pos ≤ i → i < s.size → nameByte (s.get! i).toNat = true))
  | 0, pos, h => by
    have h1 : (∀ i, pos ≤ i → i < s.size → nameByte (s.get! i).toNat = true) := fun i h1 h2 => by omega
    exact ⟨fun h2 => by simp [idxFuncFrom] at h2, fun h2 => absurd h1 h2⟩
  | f + 1, pos, h => by
    unfold idxFuncFrom
    by_cases hp : pos < s.size
    · rw [if_pos hp]
      have hb : (s.get! pos).toNat < 256 := UInt8.toNat_lt _
      by_cases hl : (s.get! pos).toNat < 128
      · have hd : Utf8.decode s pos = ((s.get! pos).toNat, 1) := by rw [decode_at]; simp [decodeN, hl]
        rw [hd]
        simp only []
        by_cases hg : nameByte (s.get! pos).toNat = true
        · rw [if_neg (by simp [badRune, hg]), idx_from s f (pos + 1) (by omega)]
          refine not_congr ⟨fun hx i h1 h2 => ?_, fun hx i h1 h2 => hx i (by omega) h2⟩
          rcases Nat.eq_or_lt_of_le h1 with rfl | h3
          · exact hg
          · exact hx i h3 h2
        · rw [if_pos (by simp [badRune, hg])]
          exact ⟨fun _ hx => hg (hx pos (Nat.le_refl _) hp), fun _ => by omega⟩
      · have h1 : 128 ≤ (Utf8.decode s pos).1 := by rw [decode_at]; exact decodeN_high _ _ _ _ _ (by omega) hb
        rw [if_pos (badRune_high h1)]
        refine ⟨fun _ hx => ?_, fun _ => by omega⟩
        have h2 := hx pos (Nat.le_refl _) hp
        simp [nameByte] at h2
        omega
    · rw [if_neg hp]
      have h1 : (∀ i, pos ≤ i → i < s.size → nameByte (s.get! i).toNat = true) := fun i h1 h2 => by omega
      exact ⟨fun h2 => by simp at h2, fun h2 => absurd h1 h2⟩

theorem idx_bad (s : ByteArray) : decide (0 ≤ idxFunc badRune true s) = !allNameBytes s := by
  unfold idxFunc allNameBytes
  have h := idx_from s s.size 0 (by omega)
  by_cases hx : ∀ i, i < s.size → nameByte (s.get! i).toNat = true
  · have : ¬ 0 ≤ idxFuncFrom badRune true s s.size 0 := fun h0 => h.1 h0 (fun i _ => hx i)
    simp only [decide_eq_false this, decide_eq_true hx, Bool.not_true]
  · have : 0 ≤ idxFuncFrom badRune true s s.size 0 := h.2 (fun h1 => hx (fun i => h1 i (Nat.zero_le _)))
    simp only [decide_eq_true this, hx, decide_false, Bool.not_false]
end Go.Proofs.YthojfhdenfhjfaaDoor
end
section
namespace Go.Proofs.YthojfhdenfhjfaaDoor
open Go.RowKit Go.Lib

structure Pnt where
  x : Int
  y : Int
deriving DecidableEq
instance : Inhabited Pnt := ⟨⟨0, 0⟩⟩
def encPnt (p : Pnt) : List Value := [.int .i64 p.x, .int .i64 p.y]
abbrev pntVal (p : Pnt) : Value := .agg #[.int .i64 p.x, .int .i64 p.y]
/-- A face; ca, cc: where its corners lie. -/
structure Face where
  name : ByteArray
  side : Int
  foot : Int
  base : Int
  rise : Int
  run : Int
  corners : List Pnt
  ca : Option Addr
  cc : Nat
instance : Inhabited Face := ⟨⟨⟨#[]⟩, 0, 0, 0, 0, 0, [], none, 0⟩⟩
def encFace (f : Face) : List Value := [.string f.name, .int .i64 f.side, .int .i64 f.foot, .int .i64 f.base, .int .i64 f.rise, .int .i64 f.run, .slice f.ca f.corners.length f.cc]
structure Opn where
  name : ByteArray
  face : Int
  low : Pnt
  high : Pnt
instance : Inhabited Opn := ⟨⟨⟨#[]⟩, 0, ⟨0, 0⟩, ⟨0, 0⟩⟩⟩
def encOpn (o : Opn) : List Value := [.string o.name, .int .i64 o.face, .int .i64 o.low.x, .int .i64 o.low.y, .int .i64 o.high.x, .int .i64 o.high.y]
structure Roof where
  faces : List Face
  opens : List Opn
  fa : Option Addr
  fc : Nat
  oa : Option Addr
  oc : Nat
abbrev roofVal (r : Roof) : Value := .agg #[.slice r.fa r.faces.length r.fc, .slice r.oa r.opens.length r.oc]
def RdPnts (w : World) (A : Option Addr) (l : List Pnt) : Prop := FlatRow encPnt 2 w A l
def RdFaces (w : World) (A : Option Addr) (l : List Face) : Prop := FlatRow encFace 7 w A l ∧ ∀ f ∈ l, RdPnts w f.ca f.corners ∧ f.name.size ≤ 140737488351232 ∧ f.corners.length ≤ f.cc
def RdOpns (w : World) (A : Option Addr) (l : List Opn) : Prop := FlatRow encOpn 6 w A l ∧ ∀ o ∈ l, o.name.size ≤ 140737488351232
theorem RdPnts.below {w w1 : World} {A : Option Addr} {l : List Pnt} (h : RdPnts w A l) (hb : Below w.heap.size w w1) : RdPnts w1 A l := FlatRow.below h hb
theorem RdFaces.below {w w1 : World} {A : Option Addr} {l : List Face} (h : RdFaces w A l) (hb : Below w.heap.size w w1) : RdFaces w1 A l := ⟨h.1.below hb, fun f hf => ⟨(h.2 f hf).1.below hb, (h.2 f hf).2⟩⟩
theorem RdOpns.below {w w1 : World} {A : Option Addr} {l : List Opn} (h : RdOpns w A l) (hb : Below w.heap.size w w1) : RdOpns w1 A l := ⟨h.1.below hb, h.2⟩
structure RdRoof (w : World) (r : Roof) : Prop where
  faces : RdFaces w r.fa r.faces
  opens : RdOpns w r.oa r.opens
  fcap : r.faces.length ≤ r.fc
  ocap : r.opens.length ≤ r.oc
theorem RdRoof.below {w w1 : World} {r : Roof} (h : RdRoof w r) (hb : Below w.heap.size w w1) : RdRoof w1 r := ⟨h.faces.below hb, h.opens.below hb, h.fcap, h.ocap⟩

/-! Plain geometry. -/
def minusP (p q : Pnt) : Pnt := ⟨p.x - q.x, p.y - q.y⟩
def crossP (a b : Pnt) : Int := a.x * b.y - a.y * b.x
def dotP (a b : Pnt) : Int := a.x * b.x + a.y * b.y
def sgn (n : Int) : Int := if n < 0 then -1 else if 0 < n then 1 else 0
/-- An edge of an outline. -/
structure Sd where
  a : Pnt
  b : Pnt
deriving DecidableEq
instance : Inhabited Sd := ⟨⟨⟨0, 0⟩, ⟨0, 0⟩⟩⟩
def encSd (s : Sd) : List Value := [.int .i64 s.a.x, .int .i64 s.a.y, .int .i64 s.b.x, .int .i64 s.b.y]
abbrev sdCells (s : Sd) : Array Value := #[.int .i64 s.a.x, .int .i64 s.a.y, .int .i64 s.b.x, .int .i64 s.b.y]
def wayS (s : Sd) : Pnt := minusP s.b s.a
/-- How much a point lies to the left of an edge. -/
def leftS (s : Sd) (p : Pnt) : Int := crossP (wayS s) (minusP p s.a)
/-- The edge at k. -/
def sideAt (l : List Pnt) (k : Nat) : Sd := ⟨l.getD k default, l.getD ((k + 1) % l.length) default⟩
def sidesL (l : List Pnt) : List Sd := (List.range l.length).map (sideAt l)
def endsS (s : Sd) : Sd := if s.b.x < s.a.x ∨ (s.a.x = s.b.x ∧ s.b.y < s.a.y) then ⟨s.b, s.a⟩ else s
/-! What the checks say. -/
/-- n lies between two numbers. -/
def inB (n lo hi : Int) : Bool := decide (lo ≤ n) && decide (n ≤ hi)
def inPlan (p : Pnt) : Bool := inB p.x 0 10000 && inB p.y 0 10000
def upS (l : List Pnt) (s : Sd) : Bool := l.any fun p => decide (0 < leftS s p)
def downS (l : List Pnt) (s : Sd) : Bool := l.any fun p => decide (leftS s p < 0)
/-- The second edge turns right back. -/
def turnS (a s : Sd) : Bool := decide (crossP (wayS a) (wayS s) = 0) && decide (dotP (wayS a) (wayS s) < 0)
/-- Edges, one behind the other, the first one behind a: none has a point to its right, none turns back. -/
def goodB (l : List Pnt) : Sd → List Sd → Bool
  | _, [] => true
  | a, s :: r => (!downS l s && !turnS a s) && goodB l s r
def lastOf (a : Sd) (l : List Sd) : Sd := l.getLast?.getD a
/-- An outline is convex and counterclockwise. -/
def convexB (l : List Pnt) : Bool := goodB l (lastOf default (sidesL l)) (sidesL l) && (sidesL l).any (upS l)
def argB (f : Face) : Bool := inB f.side 1 4 && inB f.foot 0 10000 && inB f.base 0 10000 && inB f.rise 1 100 && inB f.run 1 100
def twiceB (l : List Pnt) : Bool := (List.range l.length).any fun k => (l.take k).any fun p => decide (p = l.getD k default)
def faceErr (l : List Face) (i : Nat) : Int :=
  if nameB (l.getD i default).name = false then 5
  else if (l.take i).any (fun g => decide (g.name = (l.getD i default).name)) = true then 6
  else if argB (l.getD i default) = false then 1
  else if 12 < (l.getD i default).corners.length then 3
  else if (decide ((l.getD i default).corners.length < 3) || (l.getD i default).corners.any fun p => !inPlan p) = true then 1
  else if twiceB (l.getD i default).corners = true then 6
  else if convexB (l.getD i default).corners = false then 9 else 0
/-- 1: within an outline, 0: on an edge, -1: outside. -/
def liesI (l : List Pnt) (p : Pnt) : Int := (sidesL l).foldl (fun n s => min n (sgn (leftS s p))) 1
def boxL (o : Opn) : List Pnt := [o.low, ⟨o.high.x, o.low.y⟩, o.high, ⟨o.low.x, o.high.y⟩]
def meetB (x o : Opn) : Bool := decide (x.low.x ≤ o.high.x) && decide (o.low.x ≤ x.high.x) && decide (x.low.y ≤ o.high.y) && decide (o.low.y ≤ x.high.y)
def openErr (fs : List Face) (l : List Opn) (i : Nat) : Int :=
  if nameB (l.getD i default).name = false then 5
  else if (l.take i).any (fun x => decide (x.name = (l.getD i default).name)) = true then 6
  else if inB (l.getD i default).face 0 ((fs.length : Int) - 1) = false then 7
  else if (decide ((l.getD i default).high.x ≤ (l.getD i default).low.x) || decide ((l.getD i default).high.y ≤ (l.getD i default).low.y)) = true then 1
  else if ((boxL (l.getD i default)).any fun p => !inPlan p || !decide (0 < liesI (fs.getD (l.getD i default).face.toNat default).corners p)) = true then 9
  else if (l.take i).any (fun x => meetB x (l.getD i default)) = true then 10 else 0
/-- An edge of the first outline parts it from the second one. -/
def partedB (a b : List Pnt) : Bool := (sidesL a).any fun s => !b.any fun p => decide (0 < leftS s p)
def shareB (s t : Sd) : Bool :=
  decide (leftS s t.a = 0) && decide (leftS s t.b = 0) && decide (max 0 (min (dotP (wayS s) (minusP t.a s.a)) (dotP (wayS s) (minusP t.b s.a))) < min (dotP (wayS s) (wayS s)) (max (dotP (wayS s) (minusP t.a s.a)) (dotP (wayS s) (minusP t.b s.a))))
def clashB (fs : List Face) : Bool := (List.range fs.length).any fun i => (List.range i).any fun k => !partedB (fs.getD i default).corners (fs.getD k default).corners && !partedB (fs.getD k default).corners (fs.getD i default).corners
def scopeB (fs : List Face) : Bool := (List.range fs.length).any fun i => (List.range i).any fun k => (sidesL (fs.getD i default).corners).any fun s => (sidesL (fs.getD k default).corners).any fun t => decide (endsS s ≠ endsS t) && shareB s t
/-- The error of a roof. -/
def checkR (r : Roof) : Int :=
  if 16 < r.faces.length then 3
  else if firstErr (faceErr r.faces) r.faces.length ≠ 0 then firstErr (faceErr r.faces) r.faces.length
  else if 12 < r.opens.length then 3
  else if firstErr (openErr r.faces r.opens) r.opens.length ≠ 0 then firstErr (openErr r.faces r.opens) r.opens.length
  else if clashB r.faces = true then 10
  else if scopeB r.faces = true then 9 else 0

/-! Edges. -/
/-- An edge: the face's number, the edge's, and its ends. -/
structure Edg where
  face : Int
  number : Int
  s : Sd
deriving DecidableEq
instance : Inhabited Edg := ⟨⟨0, 0, default⟩⟩
def encEdg (e : Edg) : List Value := [.int .i64 e.face, .int .i64 e.number, .int .i64 e.s.a.x, .int .i64 e.s.a.y, .int .i64 e.s.b.x, .int .i64 e.s.b.y]
def edgesOf (fs : List Face) (i : Nat) : List Edg := (List.range (fs.getD i default).corners.length).map fun (k : Nat) => ⟨(i : Int), (k : Int), sideAt (fs.getD i default).corners k⟩
def edgesL (fs : List Face) : List Edg := (List.range fs.length).flatMap (edgesOf fs)
/-- The edge of the face beside an edge. -/
def otherE (fs : List Face) (e : Edg) : Option Edg := (edgesL fs).find? fun x => decide (endsS x.s = endsS e.s) && decide (x.face ≠ e.face)
def upV (side : Int) : Pnt := if side = 1 then ⟨0, 1⟩ else if side = 2 then ⟨-1, 0⟩ else if side = 3 then ⟨0, -1⟩ else ⟨1, 0⟩
def farV (side : Int) (p : Pnt) (foot : Int) : Int := if side = 1 then p.y - foot else if side = 2 then foot - p.x else if side = 3 then foot - p.y else p.x - foot
/-- How high a face is above a point, times its Run. -/
def highF (f : Face) (p : Pnt) : Int := f.base * f.run + f.rise * farV f.side p f.foot
def aboveF (f g : Face) (p : Pnt) : Int := highF f p * g.run - highF g p * f.run
def risesF (f : Face) (s : Sd) : Int := f.rise * crossP (wayS s) (upV f.side)
def levelF (f : Face) (s : Sd) : Bool := decide (highF f s.a = highF f s.b)
def kindE (fs : List Face) (e : Edg) : Int :=
  match otherE fs e with
  | none => if levelF (fs.getD e.face.toNat default) e.s = false then 2 else if 0 < risesF (fs.getD e.face.toNat default) e.s then 1 else 3
  | some o =>
    if aboveF (fs.getD e.face.toNat default) (fs.getD o.face.toNat default) e.s.a ≠ 0 ∨ aboveF (fs.getD e.face.toNat default) (fs.getD o.face.toNat default) e.s.b ≠ 0 then 4
    else if risesF (fs.getD e.face.toNat default) e.s * (fs.getD o.face.toNat default).run + risesF (fs.getD o.face.toNat default) o.s * (fs.getD e.face.toNat default).run = 0 then 8
    else if risesF (fs.getD e.face.toNat default) e.s < 0 ∧ risesF (fs.getD o.face.toNat default) o.s < 0 ∧ levelF (fs.getD e.face.toNat default) e.s = true then 5
    else if risesF (fs.getD e.face.toNat default) e.s < 0 ∧ risesF (fs.getD o.face.toNat default) o.s < 0 then 6
    else if 0 < risesF (fs.getD e.face.toNat default) e.s ∧ 0 < risesF (fs.getD o.face.toNat default) o.s then 7 else 9
end Go.Proofs.YthojfhdenfhjfaaDoor
end
section
namespace Go.Proofs.YthojfhdenfhjfaaDoor
open Go.RowKit Go.Lib

theorem cross_zero {v x y : Pnt} (hv : v.x ≠ 0 ∨ v.y ≠ 0) (h1 : crossP v x = 0) (h2 : crossP v y = 0) : crossP x y = 0 := by
  unfold crossP at *
  rcases hv with h | h
  · have : v.x * (x.x * y.y - x.y * y.x) = 0 := by grind
    exact (Int.mul_eq_zero.1 this).resolve_left h
  · have : v.y * (x.x * y.y - x.y * y.x) = 0 := by grind
    exact (Int.mul_eq_zero.1 this).resolve_left h
theorem cross_jac (u v x y : Pnt) : crossP u x * crossP v y - crossP v x * crossP u y = crossP u v * crossP x y := by unfold crossP; grind
theorem left_sub (s : Sd) (c d : Pnt) : crossP (wayS s) (minusP d c) = leftS s d - leftS s c := by unfold leftS crossP minusP; grind
theorem left_a (s : Sd) : leftS s s.a = 0 := by unfold leftS crossP minusP; grind
theorem left_b (s : Sd) : leftS s s.b = 0 := by unfold leftS crossP minusP wayS minusP; grind
theorem way_ne {s : Sd} (h : s.a ≠ s.b) : (wayS s).x ≠ 0 ∨ (wayS s).y ≠ 0 := by
  obtain ⟨⟨ax, ay⟩, ⟨bx, bye⟩⟩ := s
  unfold wayS minusP
  simp only [ne_eq, Pnt.mk.injEq, not_and] at h ⊢
  by_cases hx : ax = bx
  · right; have := h hx; omega
  · left; omega
theorem no_part {t s : Sd} {p q : Pnt} (ht : t.a ≠ t.b) (h1 : leftS t s.a = 0) (h2 : leftS t s.b = 0) (hp : 0 < leftS s p) (hq : 0 < leftS s q) (hp' : 0 ≤ leftS t p) (hq' : leftS t q ≤ 0) : False := by
  have huv : crossP (wayS t) (wayS s) = 0 := by have := left_sub t s.a s.b; rw [h1, h2] at this; exact this
  have hux : crossP (wayS t) (minusP p s.a) = leftS t p := by rw [left_sub, h1]; omega
  have huy : crossP (wayS t) (minusP q s.a) = leftS t q := by rw [left_sub, h1]; omega
  have hj := cross_jac (wayS t) (wayS s) (minusP p s.a) (minusP q s.a)
  rw [huv, hux, huy] at hj
  have hvx : crossP (wayS s) (minusP p s.a) = leftS s p := rfl
  have hvy : crossP (wayS s) (minusP q s.a) = leftS s q := rfl
  rw [hvx, hvy] at hj
  by_cases h0 : leftS t p = 0
  · have := cross_zero (way_ne ht) huv (hux.trans h0)
    omega
  · have a1 : 0 < leftS t p * leftS s q := Int.mul_pos (by omega) hq
    have a2 : leftS s p * leftS t q ≤ leftS s p * 0 := Int.mul_le_mul_of_nonneg_left hq' (by omega)
    omega

theorem nth_mem {α : Type} [Inhabited α] {l : List α} {k : Nat} (hk : k < l.length) : l.getD k default ∈ l := by
  have : l.getD k default = l[k] := by simp [List.getD_eq_getElem?_getD, hk]
  rw [this]; exact List.getElem_mem hk
theorem nth_of {α : Type} [Inhabited α] {l : List α} {p : α} (h : p ∈ l) : ∃ k, k < l.length ∧ l.getD k default = p := by
  obtain ⟨k, hk, e⟩ := List.getElem_of_mem h
  exact ⟨k, hk, by simp [List.getD_eq_getElem?_getD, hk, e]⟩
theorem mem_sidesL {l : List Pnt} {s : Sd} : s ∈ sidesL l ↔ ∃ k, k < l.length ∧ sideAt l k = s := by simp [sidesL]
theorem good_all {l : List Pnt} : ∀ {m : List Sd} {a : Sd}, goodB l a m = true → ∀ s ∈ m, downS l s = false
  | [], _, _, _, h => by cases h
  | x :: m, a, hg, s, hs => by
    rw [goodB] at hg
    simp only [Bool.and_eq_true, Bool.not_eq_true'] at hg
    rcases List.mem_cons.1 hs with rfl | h
    · exact hg.1.1
    · exact good_all hg.2 s h

/-- What is known of an outline that may be. -/
structure CvF (l : List Pnt) : Prop where
  least : 3 ≤ l.length
  most : l.length ≤ 12
  plan : ∀ p ∈ l, inPlan p = true
  once : ∀ j k, j < k → k < l.length → l.getD j default ≠ l.getD k default
  left : ∀ k, k < l.length → ∀ p ∈ l, 0 ≤ leftS (sideAt l k) p
  some : ∃ k, k < l.length ∧ ∃ p, p ∈ l ∧ 0 < leftS (sideAt l k) p
theorem CvF.inj {l : List Pnt} (h : CvF l) {j k : Nat} (hj : j < l.length) (hk : k < l.length) (e : l.getD j default = l.getD k default) : j = k := by
  rcases Nat.lt_trichotomy j k with q | q | q
  · exact absurd e (h.once j k q hk)
  · exact q
  · exact absurd e.symm (h.once k j q hj)
theorem next_lt {l : List Pnt} (h : 3 ≤ l.length) (k : Nat) : (k + 1) % l.length < l.length := Nat.mod_lt _ (by omega)
theorem next_val {n k : Nat} (hk : k < n) : (k + 1) % n = if k + 1 = n then 0 else k + 1 := by
  split
  · rename_i e; rw [e, Nat.mod_self]
  · exact Nat.mod_eq_of_lt (by omega)
theorem CvF.ne {l : List Pnt} (h : CvF l) {k : Nat} (hk : k < l.length) : (sideAt l k).a ≠ (sideAt l k).b := fun e => by
  have h3 := h.least
  have := h.inj hk (next_lt h.least k) e
  rw [next_val hk] at this
  split at this <;> omega
theorem CvF.up {l : List Pnt} (h : CvF l) {k : Nat} (hk : k < l.length) : ∃ p, p ∈ l ∧ 0 < leftS (sideAt l k) p := by
  apply Classical.byContradiction
  intro hn
  have hz : ∀ p ∈ l, leftS (sideAt l k) p = 0 := fun p hp => by
    have h1 := h.left k hk p hp
    have h2 : ¬ 0 < leftS (sideAt l k) p := fun q => hn ⟨p, hp, q⟩
    omega
  obtain ⟨j, hj, p, hp, hlt⟩ := h.some
  have hc : (sideAt l j).a ∈ l := nth_mem hj
  have hd : (sideAt l j).b ∈ l := nth_mem (next_lt h.least j)
  have e1 : crossP (wayS (sideAt l k)) (wayS (sideAt l j)) = 0 := by have := left_sub (sideAt l k) (sideAt l j).a (sideAt l j).b; rw [hz _ hc, hz _ hd] at this; exact this
  have e2 : crossP (wayS (sideAt l k)) (minusP p (sideAt l j).a) = 0 := by rw [left_sub, hz _ hc, hz _ hp]; rfl
  have := cross_zero (way_ne (h.ne hk)) e1 e2
  unfold leftS at hlt
  omega
theorem same_side {l m : List Pnt} (hl : CvF l) (hm : CvF m) {i j : Nat} (hi : i < l.length) (hj : j < m.length) (e : sideAt l i = sideAt m j) : partedB l m = false := by
  apply Bool.eq_false_iff.2
  intro hp
  unfold partedB at hp
  obtain ⟨t, ht, hq⟩ := List.any_eq_true.1 hp
  obtain ⟨k, hk, rfl⟩ := mem_sidesL.1 ht
  have hq' : ∀ q ∈ m, leftS (sideAt l k) q ≤ 0 := fun q hqm => by
    simp only [Bool.not_eq_true', List.any_eq_false, decide_eq_true_eq] at hq
    have := hq q hqm
    omega
  have ha : (sideAt l i).a ∈ l := nth_mem hi
  have hb : (sideAt l i).b ∈ l := nth_mem (next_lt hl.least i)
  have ha' : (sideAt l i).a ∈ m := by rw [e]; exact nth_mem hj
  have hb' : (sideAt l i).b ∈ m := by rw [e]; exact nth_mem (next_lt hm.least j)
  obtain ⟨p, hpm, hpl⟩ := hl.up hi
  obtain ⟨q, hqm, hql⟩ := hm.up hj
  rw [← e] at hql
  refine no_part (t := sideAt l k) (s := sideAt l i) (hl.ne hk) ?_ ?_ hpl hql (hl.left k hk p hpm) (hq' q hqm)
  · have h1 := hl.left k hk _ ha; have h2 := hq' _ ha'; omega
  · have h1 := hl.left k hk _ hb; have h2 := hq' _ hb'; omega

/-- What is known of the faces of a roof that may be. -/
structure OkFs (fs : List Face) : Prop where
  most : fs.length ≤ 16
  face : ∀ i, i < fs.length → CvF (fs.getD i default).corners
  arg : ∀ i, i < fs.length → argB (fs.getD i default) = true
  apart : ∀ i k, k < i → i < fs.length → partedB (fs.getD i default).corners (fs.getD k default).corners = true ∨ partedB (fs.getD k default).corners (fs.getD i default).corners = true
theorem CvF.of {fs : List Face} {i : Nat} (h : faceErr fs i = 0) : CvF (fs.getD i default).corners ∧ argB (fs.getD i default) = true := by
  unfold faceErr at h
  generalize hl : (fs.getD i default).corners = l at *
  split at h
  · omega
  split at h
  · omega
  split at h
  · omega
  split at h
  · omega
  split at h
  · omega
  split at h
  · omega
  split at h
  · omega
  rename_i h1 h2 h3 h4 h5 h6 h7
  refine ⟨?_, by simpa using h3⟩
  simp only [Bool.or_eq_true, decide_eq_true_eq, not_or, Bool.not_eq_true, List.any_eq_false, Bool.not_eq_eq_eq_not, Bool.not_true, Bool.not_eq_false] at h5
  have h7' : convexB l = true := by simpa using h7
  unfold convexB at h7'
  rw [Bool.and_eq_true] at h7'
  refine ⟨by omega, by omega, fun p hp => h5.2 p hp, ?_, ?_, ?_⟩
  · intro j k hjk hk e
    apply h6
    unfold twiceB
    refine List.any_eq_true.2 ⟨k, List.mem_range.2 hk, List.any_eq_true.2 ⟨l.getD j default, ?_, by simp only [e, decide_true]⟩⟩
    have hj : j < (l.take k).length := by rw [List.length_take]; omega
    have e2 : l.getD j default = (l.take k)[j] := by simp [List.getD_eq_getElem?_getD, List.getElem?_eq_getElem (show j < l.length by omega)]
    rw [e2]
    exact List.getElem_mem hj
  · intro k hk p hp
    have := good_all h7'.1 (sideAt l k) (mem_sidesL.2 ⟨k, hk, rfl⟩)
    unfold downS at this
    have := List.any_eq_false.1 this p hp
    simp only [decide_eq_true_eq] at this
    omega
  · obtain ⟨s, hs, hu⟩ := List.any_eq_true.1 h7'.2
    obtain ⟨k, hk, rfl⟩ := mem_sidesL.1 hs
    unfold upS at hu
    obtain ⟨p, hp, hlt⟩ := List.any_eq_true.1 hu
    exact ⟨k, hk, p, hp, by simpa using hlt⟩
theorem OkFs.of {r : Roof} (h : checkR r = 0) : OkFs r.faces := by
  unfold checkR at h
  split at h
  · omega
  split at h
  · rename_i q; exact absurd h q
  split at h
  · omega
  split at h
  · rename_i q; exact absurd h q
  split at h
  · omega
  rename_i h1 h2 h3 h4 h5
  have hz := firstErr_zero (f := faceErr r.faces) (n := r.faces.length) (by omega)
  refine ⟨by omega, fun i hi => (CvF.of (hz i hi)).1, fun i hi => (CvF.of (hz i hi)).2, fun i k hk hi => ?_⟩
  have h5' : clashB r.faces = false := by simpa using h5
  unfold clashB at h5'
  have q := List.any_eq_false.1 h5' i (List.mem_range.2 hi)
  have q' : ((List.range i).any fun k => !partedB (r.faces.getD i default).corners (r.faces.getD k default).corners && !partedB (r.faces.getD k default).corners (r.faces.getD i default).corners) = false := by simpa using q
  have q2 := List.any_eq_false.1 q' k (List.mem_range.2 hk)
  cases h8 : partedB (r.faces.getD i default).corners (r.faces.getD k default).corners with
  | true => exact .inl rfl
  | false =>
    rw [h8] at q2
    cases h9 : partedB (r.faces.getD k default).corners (r.faces.getD i default).corners with
    | true => exact .inr rfl
    | false => rw [h9] at q2; exact absurd rfl q2

def revS (s : Sd) : Sd := ⟨s.b, s.a⟩
theorem revS_revS (s : Sd) : revS (revS s) = s := rfl
theorem ends_eq {s t : Sd} (h : endsS s = endsS t) : s = t ∨ s = revS t := by
  have e : ∀ x : Sd, endsS x = x ∨ endsS x = revS x := fun x => by unfold endsS; split; exact .inr rfl; exact .inl rfl
  rcases e s with h1 | h1 <;> rcases e t with h2 | h2 <;> rw [h1, h2] at h
  · exact .inl h
  · exact .inr h
  · exact .inr (by rw [← h]; rfl)
  · exact .inl (by have := congrArg revS h; exact this)
theorem mem_edges {fs : List Face} {e : Edg} : e ∈ edgesL fs ↔ ∃ i k, i < fs.length ∧ k < (fs.getD i default).corners.length ∧ e = ⟨(i : Int), (k : Int), sideAt (fs.getD i default).corners k⟩ := by
  unfold edgesL edgesOf
  simp only [List.mem_flatMap, List.mem_range, List.mem_map]
  constructor
  · rintro ⟨i, hi, k, hk, rfl⟩; exact ⟨i, k, hi, hk, rfl⟩
  · rintro ⟨i, k, hi, hk, rfl⟩; exact ⟨i, hi, k, hk, rfl⟩
theorem OkFs.two {fs : List Face} (h : OkFs fs) {i j : Nat} (hi : i < fs.length) (hj : j < fs.length) (hne : i ≠ j) :
    partedB (fs.getD i default).corners (fs.getD j default).corners = true ∨ partedB (fs.getD j default).corners (fs.getD i default).corners = true := by
  rcases Nat.lt_or_gt_of_ne hne with q | q
  · exact (h.apart j i q hj).symm
  · exact h.apart i j q hi
theorem edge_same {fs : List Face} (h : OkFs fs) {x y : Edg} (hx : x ∈ edgesL fs) (hy : y ∈ edgesL fs) (e : x.s = y.s) : x = y := by
  obtain ⟨i, k, hi, hk, rfl⟩ := mem_edges.1 hx
  obtain ⟨j, m, hj, hm, rfl⟩ := mem_edges.1 hy
  dsimp only at e
  by_cases hij : i = j
  · subst hij
    have : k = m := (h.face i hi).inj hk hm (congrArg Sd.a e)
    rw [this]
  · exfalso
    have h1 := same_side (h.face i hi) (h.face j hj) hk hm e
    have h2 := same_side (h.face j hj) (h.face i hi) hm hk e.symm
    rcases h.two hi hj hij with q | q
    · rw [h1] at q; cases q
    · rw [h2] at q; cases q
theorem edge_rev {fs : List Face} (h : OkFs fs) {x y : Edg} (hx : x ∈ edgesL fs) (hy : y ∈ edgesL fs) (e : x.s = revS y.s) : x.face ≠ y.face := by
  obtain ⟨i, k, hi, hk, rfl⟩ := mem_edges.1 hx
  obtain ⟨j, m, hj, hm, rfl⟩ := mem_edges.1 hy
  dsimp only at e ⊢
  intro hij
  obtain rfl : i = j := by omega
  have h3 := (h.face i hi).least
  have e1 : k = (m + 1) % (fs.getD i default).corners.length := (h.face i hi).inj hk (next_lt h3 m) (congrArg Sd.a e)
  have e2 : (k + 1) % (fs.getD i default).corners.length = m := (h.face i hi).inj (next_lt h3 k) hm (congrArg Sd.b e)
  rw [next_val hm] at e1
  rw [next_val hk] at e2
  split at e1 <;> split at e2 <;> omega
theorem other_some {fs : List Face} {e o : Edg} (h : OkFs fs) (he : e ∈ edgesL fs) (ho : otherE fs e = some o) : o ∈ edgesL fs ∧ o.s = revS e.s ∧ o.face ≠ e.face ∧ endsS o.s = endsS e.s := by
  unfold otherE at ho
  have h1 := List.mem_of_find?_eq_some ho
  have h2 := List.find?_some ho
  simp only [Bool.and_eq_true, decide_eq_true_eq] at h2
  refine ⟨h1, ?_, h2.2, h2.1⟩
  rcases ends_eq h2.1 with q | q
  · exact absurd (congrArg Edg.face (edge_same h h1 he q)) h2.2
  · exact q
theorem other_back {fs : List Face} {e o : Edg} (h : OkFs fs) (he : e ∈ edgesL fs) (ho : otherE fs e = some o) : otherE fs o = some e := by
  obtain ⟨om, os, of, oe⟩ := other_some h he ho
  cases hz : otherE fs o with
  | none =>
    exfalso
    unfold otherE at hz
    have := List.find?_eq_none.1 hz e he
    apply this
    simp only [Bool.and_eq_true, decide_eq_true_eq]
    exact ⟨oe.symm, of.symm⟩
  | some z =>
    obtain ⟨zm, zs, zf, ze⟩ := other_some h om hz
    rw [os, revS_revS] at zs
    rw [edge_same h zm he zs]

theorem arg_run {f : Face} (h : argB f = true) : 1 ≤ f.run ∧ f.run ≤ 100 ∧ 1 ≤ f.rise ∧ f.rise ≤ 100 ∧ 0 ≤ f.base ∧ f.base ≤ 10000 ∧ 0 ≤ f.foot ∧ f.foot ≤ 10000 ∧ 1 ≤ f.side ∧ f.side ≤ 4 := by
  unfold argB inB at h
  simp only [Bool.and_eq_true, decide_eq_true_eq] at h
  omega
theorem above_swap (f g : Face) (p : Pnt) : aboveF g f p = -aboveF f g p := by unfold aboveF; omega
/-- What a face's edge is, said with the other face's. -/
def kindP (f g : Face) (s : Sd) : Int :=
  if aboveF f g s.a ≠ 0 ∨ aboveF f g s.b ≠ 0 then 4
    else if risesF f s * g.run + risesF g (revS s) * f.run = 0 then 8
    else if risesF f s < 0 ∧ risesF g (revS s) < 0 ∧ levelF f s = true then 5
    else if risesF f s < 0 ∧ risesF g (revS s) < 0 then 6
    else if 0 < risesF f s ∧ 0 < risesF g (revS s) then 7 else 9
theorem kindP_swap {f g : Face} (hf : 1 ≤ f.run) (hg : 1 ≤ g.run) (s : Sd) : kindP g f (revS s) = kindP f g s := by
  unfold kindP
  have ea : aboveF g f (revS s).a = -aboveF f g s.b := above_swap f g s.b
  have eb : aboveF g f (revS s).b = -aboveF f g s.a := above_swap f g s.a
  rw [ea, eb, revS_revS]
  by_cases hab : aboveF f g s.a ≠ 0 ∨ aboveF f g s.b ≠ 0
  · rw [if_pos hab, if_pos (by omega)]
  · rw [if_neg hab, if_neg (by omega)]
    have hlv : levelF g (revS s) = levelF f s := by
      have h1 : aboveF f g s.a = 0 := by omega
      have h2 : aboveF f g s.b = 0 := by omega
      unfold aboveF at h1 h2
      unfold levelF
      rw [Bool.eq_iff_iff]
      simp only [decide_eq_true_eq]
      show highF g s.b = highF g s.a ↔ highF f s.a = highF f s.b
      constructor
      · intro e
        rw [e] at h2
        have : (highF f s.a - highF f s.b) * g.run = 0 := by rw [Int.sub_mul]; omega
        rcases Int.mul_eq_zero.1 this with q | q <;> omega
      · intro e
        rw [e] at h1
        have : (highF g s.b - highF g s.a) * f.run = 0 := by rw [Int.sub_mul]; omega
        rcases Int.mul_eq_zero.1 this with q | q <;> omega
    rw [hlv, Int.add_comm]
    have c1 : (risesF g (revS s) < 0 ∧ risesF f s < 0 ∧ levelF f s = true) ↔ (risesF f s < 0 ∧ risesF g (revS s) < 0 ∧ levelF f s = true) := by constructor <;> (rintro ⟨a, b, c⟩; exact ⟨b, a, c⟩)
    have c2 : (risesF g (revS s) < 0 ∧ risesF f s < 0) ↔ (risesF f s < 0 ∧ risesF g (revS s) < 0) := And.comm
    have c3 : (0 < risesF g (revS s) ∧ 0 < risesF f s) ↔ (0 < risesF f s ∧ 0 < risesF g (revS s)) := And.comm
    simp only [c1, c2, c3]
theorem kind_other {fs : List Face} {e o : Edg} (h : OkFs fs) (he : e ∈ edgesL fs) (ho : otherE fs e = some o) : kindE fs e = kindP (fs.getD e.face.toNat default) (fs.getD o.face.toNat default) e.s := by
  have os := (other_some h he ho).2.1
  unfold kindE kindP
  rw [ho, ← os]
theorem kind_alone {fs : List Face} {e : Edg} (ho : otherE fs e = none) : kindE fs e = if levelF (fs.getD e.face.toNat default) e.s = false then 2 else if 0 < risesF (fs.getD e.face.toNat default) e.s then 1 else 3 := by
  unfold kindE
  rw [ho]
theorem kind_back {fs : List Face} {e o : Edg} (h : OkFs fs) (he : e ∈ edgesL fs) (ho : otherE fs e = some o) : kindE fs o = kindE fs e := by
  obtain ⟨om, os, _, _⟩ := other_some h he ho
  have hb := other_back h he ho
  rw [kind_other h he ho, kind_other h om hb, os]
  obtain ⟨i, k, hi, hk, rfl⟩ := mem_edges.1 he
  obtain ⟨j, m, hj, hm, rfl⟩ := mem_edges.1 om
  dsimp only [Int.toNat_natCast] at *
  exact kindP_swap (arg_run (h.arg i hi)).1 (arg_run (h.arg j hj)).1 _
theorem kindP_range (f g : Face) (s : Sd) : 4 ≤ kindP f g s ∧ kindP f g s ≤ 9 := by
  unfold kindP; repeat' split
  all_goals omega
theorem alone_range {fs : List Face} {e : Edg} (ho : otherE fs e = none) : 1 ≤ kindE fs e ∧ kindE fs e ≤ 3 := by
  rw [kind_alone ho]; repeat' split
  all_goals omega
end Go.Proofs.YthojfhdenfhjfaaDoor
end
section
namespace Go.Proofs.YthojfhdenfhjfaaDoor
open Go.RowKit Go.Lib

def clashAt (fs : List Face) (i k : Nat) : Bool := !partedB (fs.getD i default).corners (fs.getD k default).corners && !partedB (fs.getD k default).corners (fs.getD i default).corners
def crossB (s t : Sd) : Bool := decide (endsS s ≠ endsS t) && shareB s t
def scopeAt (fs : List Face) (i k : Nat) : Bool := (sidesL (fs.getD i default).corners).any fun s => (sidesL (fs.getD k default).corners).any fun t => crossB s t
theorem clash_iff {fs : List Face} : clashB fs = true ↔ ∃ i k, k < i ∧ i < fs.length ∧ clashAt fs i k = true := by
  unfold clashB clashAt
  simp only [List.any_eq_true, List.mem_range]
  constructor
  · rintro ⟨i, hi, k, hk, h⟩; exact ⟨i, k, hk, hi, h⟩
  · rintro ⟨i, k, hk, hi, h⟩; exact ⟨i, hi, k, hk, h⟩
theorem scope_iff {fs : List Face} : scopeB fs = true ↔ ∃ i k, k < i ∧ i < fs.length ∧ scopeAt fs i k = true := by
  unfold scopeB scopeAt crossB
  rw [List.any_eq_true]
  constructor
  · rintro ⟨i, hi, h⟩
    obtain ⟨k, hk, h⟩ := List.any_eq_true.1 h
    exact ⟨i, k, List.mem_range.1 hk, List.mem_range.1 hi, h⟩
  · rintro ⟨i, k, hk, hi, h⟩
    exact ⟨i, List.mem_range.2 hi, List.any_eq_true.2 ⟨k, List.mem_range.2 hk, h⟩⟩
theorem clash_no {fs : List Face} (h : ∀ i k, k < i → i < fs.length → clashAt fs i k = false) : clashB fs = false := by
  cases q : clashB fs with
  | false => rfl
  | true => obtain ⟨i, k, hk, hi, e⟩ := clash_iff.1 q; rw [h i k hk hi] at e; cases e
theorem scope_no {fs : List Face} (h : ∀ i k, k < i → i < fs.length → scopeAt fs i k = false) : scopeB fs = false := by
  cases q : scopeB fs with
  | false => rfl
  | true => obtain ⟨i, k, hk, hi, e⟩ := scope_iff.1 q; rw [h i k hk hi] at e; cases e
theorem check_most {r : Roof} (h : 16 < r.faces.length) : checkR r = 3 := by unfold checkR; rw [if_pos h]
theorem check_face {r : Roof} {k : Nat} (h : ¬ 16 < r.faces.length) (h0 : ∀ j, j < k → faceErr r.faces j = 0) (hk : k < r.faces.length) (hn : faceErr r.faces k ≠ 0) : checkR r = faceErr r.faces k := by
  have e := firstErr_stop h0 hn hk
  unfold checkR
  rw [if_neg h, e, if_pos hn]
theorem check_opens {r : Roof} (h : ¬ 16 < r.faces.length) (h0 : ∀ j, j < r.faces.length → faceErr r.faces j = 0) (ho : 12 < r.opens.length) : checkR r = 3 := by
  unfold checkR
  rw [if_neg h, firstErr_none h0, if_neg (by simp), if_pos ho]
theorem check_open {r : Roof} {k : Nat} (h : ¬ 16 < r.faces.length) (h0 : ∀ j, j < r.faces.length → faceErr r.faces j = 0) (ho : ¬ 12 < r.opens.length) (h1 : ∀ j, j < k → openErr r.faces r.opens j = 0) (hk : k < r.opens.length) (hn : openErr r.faces r.opens k ≠ 0) : checkR r = openErr r.faces r.opens k := by
  have e := firstErr_stop h1 hn hk
  unfold checkR
  rw [if_neg h, firstErr_none h0, if_neg (by simp), if_neg ho, e, if_pos hn]
theorem check_rest {r : Roof} (h : ¬ 16 < r.faces.length) (h0 : ∀ j, j < r.faces.length → faceErr r.faces j = 0) (ho : ¬ 12 < r.opens.length) (h1 : ∀ j, j < r.opens.length → openErr r.faces r.opens j = 0) :
    checkR r = if clashB r.faces = true then 10 else if scopeB r.faces = true then 9 else 0 := by
  unfold checkR
  rw [if_neg h, firstErr_none h0, if_neg (by simp), if_neg ho, firstErr_none h1, if_neg (by simp)]
theorem face_corners {l : List Face} {i : Nat} (h : faceErr l i = 0) : (∀ q ∈ (l.getD i default).corners, inPlan q = true) ∧ (l.getD i default).corners.length ≤ 12 := by
  unfold faceErr at h
  split at h
  · omega
  split at h
  · omega
  split at h
  · omega
  split at h
  · omega
  split at h
  · omega
  rename_i h1 h2 h3 h4 h5
  simp only [Bool.or_eq_true, decide_eq_true_eq, not_or, Bool.not_eq_true, List.any_eq_false, Bool.not_eq_eq_eq_not, Bool.not_true, Bool.not_eq_false] at h5
  exact ⟨h5.2, by omega⟩
end Go.Proofs.YthojfhdenfhjfaaDoor
end
section
namespace Go.Proofs.YthojfhdenfhjfaaDoor
open Go.RowKit Go.Lib

/-- An edge as the program tells it. -/
structure ERow where
  face : Int
  number : Int
  kind : Int
  withF : Int
  atE : Int
deriving DecidableEq
instance : Inhabited ERow := ⟨⟨0, 0, 0, 0, 0⟩⟩
def rowE (fs : List Face) (e : Edg) : ERow :=
  match otherE fs e with
  | none => ⟨e.face, e.number, kindE fs e, -1, -1⟩
  | some o => ⟨e.face, e.number, kindE fs e, o.face, o.number⟩
def rowsL (fs : List Face) : List ERow := (edgesL fs).map (rowE fs)
def lenF (fs : List Face) (i : Nat) : Nat := (fs.getD i default).corners.length
def offs (fs : List Face) : Nat → Nat
  | 0 => 0
  | i + 1 => offs fs i + lenF fs i
theorem edgesOf_len (fs : List Face) (i : Nat) : (edgesOf fs i).length = lenF fs i := by simp [edgesOf, lenF]
theorem flat_len (fs : List Face) : ∀ n, ((List.range n).flatMap (edgesOf fs)).length = offs fs n
  | 0 => rfl
  | n + 1 => by rw [List.range_succ, List.flatMap_append, List.length_append, flat_len fs n]; simp [edgesOf_len, offs]
theorem edges_len (fs : List Face) : (edgesL fs).length = offs fs fs.length := flat_len fs _
theorem flat_at (fs : List Face) {i k : Nat} (hk : k < lenF fs i) : ∀ n, i < n → ((List.range n).flatMap (edgesOf fs))[offs fs i + k]? = some ⟨(i : Int), (k : Int), sideAt (fs.getD i default).corners k⟩
  | 0, h => absurd h (Nat.not_lt_zero _)
  | n + 1, h => by
    rw [List.range_succ, List.flatMap_append]
    rcases Nat.lt_or_ge i n with q | q
    · have := flat_at fs hk n q
      rw [List.getElem?_append_left (List.getElem?_eq_some_iff.1 this).1]
      exact this
    · obtain rfl : i = n := by omega
      rw [List.getElem?_append_right (by rw [flat_len]; omega), flat_len, Nat.add_sub_cancel_left]
      simp only [List.flatMap_cons, List.flatMap_nil, List.append_nil]
      unfold edgesOf
      unfold lenF at hk
      rw [List.getElem?_map, List.getElem?_range hk]
      rfl
theorem edges_at (fs : List Face) {i k : Nat} (hi : i < fs.length) (hk : k < lenF fs i) : (edgesL fs)[offs fs i + k]? = some ⟨(i : Int), (k : Int), sideAt (fs.getD i default).corners k⟩ := flat_at fs hk _ hi
theorem offs_mono (fs : List Face) {i : Nat} : ∀ {n}, i ≤ n → offs fs i ≤ offs fs n
  | 0, h => by obtain rfl : i = 0 := by omega
               exact Nat.le_refl _
  | n + 1, h => by
    rcases Nat.lt_or_ge i (n + 1) with q | q
    · exact Nat.le_trans (offs_mono fs (show i ≤ n by omega)) (Nat.le_add_right _ _)
    · obtain rfl : i = n + 1 := by omega
      exact Nat.le_refl _
theorem rows_at (fs : List Face) {i k : Nat} (hi : i < fs.length) (hk : k < lenF fs i) : (rowsL fs).getD (offs fs i + k) default = rowE fs ⟨(i : Int), (k : Int), sideAt (fs.getD i default).corners k⟩ := by
  unfold rowsL
  rw [List.getD_eq_getElem?_getD, List.getElem?_map, edges_at fs hi hk]
  rfl
theorem rows_len (fs : List Face) : (rowsL fs).length = offs fs fs.length := by unfold rowsL; rw [List.length_map, edges_len]
theorem offs_small {fs : List Face} {c : Nat} (h : ∀ i, i < fs.length → lenF fs i ≤ c) : ∀ n, n ≤ fs.length → offs fs n ≤ n * c
  | 0, _ => by simp [offs]
  | n + 1, hn => by
    have h1 := offs_small h n (by omega)
    have h2 := h n (by omega)
    rw [offs, Nat.succ_mul]
    omega
theorem rowE_face (fs : List Face) (e : Edg) : (rowE fs e).face = e.face ∧ (rowE fs e).number = e.number ∧ (rowE fs e).kind = kindE fs e := by unfold rowE; split <;> exact ⟨rfl, rfl, rfl⟩

/-- What the statement asks of each edge. -/
theorem row_alone {fs : List Face} {e : Edg} (ho : otherE fs e = none) : (rowE fs e).withF = -1 ∧ (rowE fs e).atE = -1 ∧ 1 ≤ (rowE fs e).kind ∧ (rowE fs e).kind ≤ 3 := by
  have h := alone_range ho
  unfold rowE
  rw [ho]
  exact ⟨rfl, rfl, h⟩
theorem row_other {fs : List Face} {e o : Edg} (h : OkFs fs) (he : e ∈ edgesL fs) (ho : otherE fs e = some o) :
    (rowE fs e).withF = o.face ∧ (rowE fs e).atE = o.number ∧ 4 ≤ (rowE fs e).kind ∧ (rowE fs o).kind = (rowE fs e).kind ∧ (rowE fs o).withF = e.face ∧ (rowE fs o).atE = e.number ∧ o.face ≠ e.face ∧ o.s = revS e.s ∧ o ∈ edgesL fs := by
  obtain ⟨om, os, of, _⟩ := other_some h he ho
  have hb := other_back h he ho
  have hk := kind_back h he ho
  have hr := kindP_range (fs.getD e.face.toNat default) (fs.getD o.face.toNat default) e.s
  rw [← kind_other h he ho] at hr
  have e1 : rowE fs e = ⟨e.face, e.number, kindE fs e, o.face, o.number⟩ := by unfold rowE; rw [ho]
  have e2 : rowE fs o = ⟨o.face, o.number, kindE fs o, e.face, e.number⟩ := by unfold rowE; rw [hb]
  rw [e1, e2]
  exact ⟨rfl, rfl, hr.1, hk, rfl, rfl, of, os, om⟩
end Go.Proofs.YthojfhdenfhjfaaDoor
end
section
namespace Go.Proofs.YthojfhdenfhjfaaDoor
open Go.RowKit Go.Lib

def gcdI (n d : Int) : Int := (Int.gcd n d : Int)
def ratN (n d : Int) : Int := n / gcdI n d
def ratD (n d : Int) : Int := d / gcdI n d
theorem gcd_pos {n d : Int} (hd : 0 < d) : 0 < gcdI n d := by
  unfold gcdI
  have : Int.gcd n d ≠ 0 := fun h => by
    rw [Int.gcd_eq_zero_iff] at h
    omega
  omega
theorem gcd_n (n d : Int) : ∃ a, n = gcdI n d * a := by
  obtain ⟨a, h⟩ := Int.gcd_dvd_left (a := n) (b := d)
  exact ⟨a, h⟩
theorem gcd_d (n d : Int) : ∃ b, d = gcdI n d * b := by
  obtain ⟨b, h⟩ := Int.gcd_dvd_right (a := n) (b := d)
  exact ⟨b, h⟩
theorem ratN_mul {n d : Int} (hd : 0 < d) : gcdI n d * ratN n d = n := by
  obtain ⟨a, h⟩ := gcd_n n d
  have hp := gcd_pos (n := n) hd
  unfold ratN
  exact Int.mul_ediv_cancel' ⟨a, h⟩
theorem ratD_mul {n d : Int} (hd : 0 < d) : gcdI n d * ratD n d = d := by
  obtain ⟨a, h⟩ := gcd_d n d
  unfold ratD
  exact Int.mul_ediv_cancel' ⟨a, h⟩
theorem ratD_pos {n d : Int} (hd : 0 < d) : 0 < ratD n d := by
  have h := ratD_mul (n := n) hd
  have hp := gcd_pos (n := n) hd
  apply Classical.byContradiction
  intro hn
  have : gcdI n d * ratD n d ≤ gcdI n d * 0 := Int.mul_le_mul_of_nonneg_left (by omega) (by omega)
  omega
theorem gcd_cross {n d m e : Int} (hd : 0 < d) (he : 0 < e) (h : n * e = m * d) : e * gcdI n d = d * gcdI m e := by
  unfold gcdI
  have h1 : (Int.gcd (n * e) (d * e) : Int) = Int.gcd n d * e := by
    rw [Int.gcd_mul_right]
    push_cast
    rw [Int.natAbs_of_nonneg (by omega)]
  have h2 : (Int.gcd (m * d) (e * d) : Int) = Int.gcd m e * d := by
    rw [Int.gcd_mul_right]
    push_cast
    rw [Int.natAbs_of_nonneg (by omega)]
  rw [h, Int.mul_comm d e, h2] at h1
  rw [Int.mul_comm, ← h1, Int.mul_comm]
theorem rat_eq {n d m e : Int} (hd : 0 < d) (he : 0 < e) : (ratN n d = ratN m e ∧ ratD n d = ratD m e) ↔ n * e = m * d := by
  have hn := ratN_mul (n := n) hd
  have hdd := ratD_mul (n := n) hd
  have hm := ratN_mul (n := m) he
  have hee := ratD_mul (n := m) he
  have hg := gcd_pos (n := n) hd
  have hk := gcd_pos (n := m) he
  have hbp := ratD_pos (n := n) hd
  have hc : n * e = m * d → e * gcdI n d = d * gcdI m e := gcd_cross hd he
  generalize gcdI n d = g at *
  generalize gcdI m e = k at *
  generalize ratN n d = a at *
  generalize ratD n d = b at *
  generalize ratN m e = a' at *
  generalize ratD m e = b' at *
  constructor
  · rintro ⟨rfl, rfl⟩
    rw [← hn, ← hdd, ← hm, ← hee]
    grind
  · intro h
    have h2 := hc h
    have hgk : g * k ≠ 0 := fun q => by rcases Int.mul_eq_zero.1 q with q | q <;> omega
    have hb : b = b' := by
      have : (g * k) * (b - b') = 0 := by grind
      rcases Int.mul_eq_zero.1 this with q | q
      · exact absurd q hgk
      · omega
    subst hb
    refine ⟨?_, rfl⟩
    have : (g * k * b) * (a - a') = 0 := by grind
    rcases Int.mul_eq_zero.1 this with q | q
    · rcases Int.mul_eq_zero.1 q with q | q
      · exact absurd q hgk
      · omega
    · omega
end Go.Proofs.YthojfhdenfhjfaaDoor
end
