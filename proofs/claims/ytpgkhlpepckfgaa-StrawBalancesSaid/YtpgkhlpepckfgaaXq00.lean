/-
  The law's sum of loads, walked. The ledger of the library: what lies in memory, plain.
-/
import Derived.Test.YtpgkhlpepckfgaaXa10
import Derived.Test.YtpgkhlpepckfgaaXa17
import Derived.Test.YtpgkhlpepckfgaaXa20
set_option linter.all false
set_option linter.unusedVariables false
set_option linter.unusedSimpArgs false
section
namespace Go.Proofs.Ytpgkhlpepckfgaa
open Go.RowKit Go.Lib

set_option maxHeartbeats 1000000 in
set_option maxRecDepth 100000 in
theorem lsum_of (A : Option Addr) (c : Nat) (l : List Portion) (i : Int) (w : World) (h : RdParts w A l) (hm : Mild l) (hi0 : 0 ≤ i) :
    Calls Try.prog 41 #[.slice A l.length c, .int .i64 i] w fun e w' => e = .returned (.int .i64 (ofL l i)) ∧ w = w' := by
  have hl := h.1
  have hlm := hm.1
  have hneg : ¬ i < 0 := by omega
  go_enter Try.func41, Try.ntmps41
  go_wp2
  go_loop [5, 6] (fun s j => ∃ k : Nat, s = .int .i64 (ofL (l.take k) i) ∧ j = .int .i64 k ∧ k ≤ l.length) (fun _ j => l.length - (intOf j).toNat)
  case atStart => exact ⟨0, rfl, rfl, by omega⟩
  case round =>
    obtain ⟨k, rfl, rfl, hk⟩ := hrel
    obtain ⟨t1, t2⟩ := hm.take k
    obtain ⟨b1, b2⟩ := ofL_bounds i t1
    by_cases hlt : k < l.length
    · obtain ⟨ad, hA, p0, p1⟩ := FlatRow.at2 h hlt rfl
      subst hA
      have hs := ofL_take l i k hlt
      obtain ⟨q1, q2⟩ := hm.2 _ (List.getElem_mem hlt)
      by_cases he : l[k].plot = i
      · rw [if_pos he] at hs
        replace hs := Lib.hid hs
        have heb : (l[k].plot == i) = true := by simpa using he
        replace he := Lib.hid he
        go_wp2
        exact ⟨⟨k + 1, by rw [hs.out], by go_num, by omega⟩, by simp only [intOf]; omega⟩
      · rw [if_neg he] at hs
        replace hs := Lib.hid hs
        have heb : (l[k].plot == i) = false := by simpa using he
        replace he := Lib.hid he
        go_wp2
        exact ⟨⟨k + 1, by rw [hs.out]; simp, by go_num, by omega⟩, by simp only [intOf]; omega⟩
    · have hke : k = l.length := by omega
      subst hke
      go_wp2
      go_ret
      simp

set_option maxHeartbeats 1000000 in
set_option maxRecDepth 100000 in
theorem lsum_all (A : Option Addr) (c : Nat) (l : List Portion) (w : World) (h : RdParts w A l) (hm : Mild l) :
    Calls Try.prog 41 #[.slice A l.length c, .int .i64 (-1)] w fun e w' => e = .returned (.int .i64 (sumL l)) ∧ w = w' := by
  have hl := h.1
  have hlm := hm.1
  go_enter Try.func41, Try.ntmps41
  go_wp2
  go_loop [5, 6] (fun s j => ∃ k : Nat, s = .int .i64 (sumL (l.take k)) ∧ j = .int .i64 k ∧ k ≤ l.length) (fun _ j => l.length - (intOf j).toNat)
  case atStart => exact ⟨0, rfl, rfl, by omega⟩
  case round =>
    obtain ⟨k, rfl, rfl, hk⟩ := hrel
    obtain ⟨t1, t2⟩ := hm.take k
    obtain ⟨b1, b2⟩ := sumL_bounds t1
    by_cases hlt : k < l.length
    · obtain ⟨ad, hA, p0, p1⟩ := FlatRow.at2 h hlt rfl
      subst hA
      have hs := sumL_take l k hlt
      obtain ⟨q1, q2⟩ := hm.2 _ (List.getElem_mem hlt)
      have hs := Lib.hid hs
      go_wp2
      exact ⟨⟨k + 1, by rw [hs.out], by go_num, by omega⟩, by simp only [intOf]; omega⟩
    · have hke : k = l.length := by omega
      subst hke
      go_wp2
      go_ret
      simp
end Go.Proofs.Ytpgkhlpepckfgaa
end
section
namespace Go.Proofs.Ytpgkhlpepckfgaa
open Go.RowKit Go.Lib

/-- Three rows of counts: bound, wasted, lying. -/
structure L3 (w : World) (A : Option Addr) (c : Nat) (pl : List Plot) (dry : Int) (s : Store) (gb gw gl : Nat) (fb fw fl : Nat → Int) (wr : World) : Prop extends FS w A c pl dry s wr where
  cb : wr.heap[gb]? = some (.cells (cntRow pl.length fb) 3 (0, 0))
  cw : wr.heap[gw]? = some (.cells (cntRow pl.length fw) 3 (0, 0))
  cl : wr.heap[gl]? = some (.cells (cntRow pl.length fl) 3 (0, 0))
  hb : w.heap.size + 2 ≤ gb
  hw : w.heap.size + 2 ≤ gw
  hl : w.heap.size + 2 ≤ gl
  bw : gb ≠ gw
  bl : gb ≠ gl
  wl : gw ≠ gl
section
variable {w : World} {A : Option Addr} {c : Nat} {pl : List Plot} {dry : Int} {s : Store} {gb gw gl k : Nat} {fb fw fl f' : Nat → Int} {wr wx : World}
theorem L3.szb (h : L3 w A c pl dry s gb gw gl fb fw fl wr) : gb < wr.heap.size := (Array.getElem?_eq_some_iff.1 h.cb).1
theorem L3.szw (h : L3 w A c pl dry s gb gw gl fb fw fl wr) : gw < wr.heap.size := (Array.getElem?_eq_some_iff.1 h.cw).1
theorem L3.szl (h : L3 w A c pl dry s gb gw gl fb fw fl wr) : gl < wr.heap.size := (Array.getElem?_eq_some_iff.1 h.cl).1
theorem L3.later (h : L3 w A c pl dry s gb gw gl fb fw fl wr) (hb : Below wr.heap.size wr wx) : L3 w A c pl dry s gb gw gl fb fw fl wx :=
  ⟨h.toFS.later hb, (hb.block _ h.szb).trans h.cb, (hb.block _ h.szw).trans h.cw, (hb.block _ h.szl).trans h.cl, h.hb, h.hw, h.hl, h.bw, h.bl, h.wl⟩
theorem L3.extL (h : L3 w A c pl dry s gb gw gl fb fw fl wr) (e : ∀ i, fl i = f' i) : L3 w A c pl dry s gb gw gl fb fw f' wr := by
  obtain rfl : fl = f' := funext e
  exact h
theorem L3.countB (h : L3 w A c pl dry s gb gw gl fb fw fl wr) (B : Option Addr) (cb : Nat) (l : List Portion) (hl : RdParts w B l) (hm : Mild l) (hin : ∀ p ∈ l, 0 ≤ p.plot ∧ p.plot < (pl.length : Int)) (hf : ∀ i, 0 ≤ fb i ∧ fb i ≤ 1000000000000000) (hn : pl.length ≤ 1000000) :
    Calls Try.prog 61 #[.slice (some ⟨gb, 0, none⟩) pl.length pl.length, .slice B l.length cb] wr fun e w' => e = .returned (.tuple #[]) ∧ L3 w A c pl dry s gb gw gl (fun i => fb i + ofL l i) fw fl w' := by
  have z1 := h.hb; have z2 := h.size; have z3 := h.szw; have z4 := h.szl
  refine (Ytpgkhlpepckfgaa.count_any w wr gb pl.length pl.length fb B cb l hl h.below (by omega) h.szb h.cb hm hf hin hn (Nat.le_refl _)).mono ?_
  rintro e w' ⟨rfl, h1, h2, h3, h4⟩
  exact ⟨rfl, ⟨h2, (h4 _ (by omega) (by omega)).trans h.farm, (h4 _ (by omega) (by omega)).trans h.store, by omega⟩, h1, (h4 _ z3 h.bw.symm).trans h.cw, (h4 _ z4 h.bl.symm).trans h.cl, h.hb, h.hw, h.hl, h.bw, h.bl, h.wl⟩
theorem L3.countW (h : L3 w A c pl dry s gb gw gl fb fw fl wr) (B : Option Addr) (cb : Nat) (l : List Portion) (hl : RdParts w B l) (hm : Mild l) (hin : ∀ p ∈ l, 0 ≤ p.plot ∧ p.plot < (pl.length : Int)) (hf : ∀ i, 0 ≤ fw i ∧ fw i ≤ 1000000000000000) (hn : pl.length ≤ 1000000) :
    Calls Try.prog 61 #[.slice (some ⟨gw, 0, none⟩) pl.length pl.length, .slice B l.length cb] wr fun e w' => e = .returned (.tuple #[]) ∧ L3 w A c pl dry s gb gw gl fb (fun i => fw i + ofL l i) fl w' := by
  have z1 := h.hw; have z2 := h.size; have z3 := h.szb; have z4 := h.szl
  refine (Ytpgkhlpepckfgaa.count_any w wr gw pl.length pl.length fw B cb l hl h.below (by omega) h.szw h.cw hm hf hin hn (Nat.le_refl _)).mono ?_
  rintro e w' ⟨rfl, h1, h2, h3, h4⟩
  exact ⟨rfl, ⟨h2, (h4 _ (by omega) (by omega)).trans h.farm, (h4 _ (by omega) (by omega)).trans h.store, by omega⟩, (h4 _ z3 h.bw).trans h.cb, h1, (h4 _ z4 h.wl.symm).trans h.cl, h.hb, h.hw, h.hl, h.bw, h.bl, h.wl⟩
theorem L3.countL (h : L3 w A c pl dry s gb gw gl fb fw fl wr) (B : Option Addr) (cb : Nat) (l : List Portion) (hl : RdParts w B l) (hm : Mild l) (hin : ∀ p ∈ l, 0 ≤ p.plot ∧ p.plot < (pl.length : Int)) (hf : ∀ i, 0 ≤ fl i ∧ fl i ≤ 1000000000000000) (hn : pl.length ≤ 1000000) :
    Calls Try.prog 61 #[.slice (some ⟨gl, 0, none⟩) pl.length pl.length, .slice B l.length cb] wr fun e w' => e = .returned (.tuple #[]) ∧ L3 w A c pl dry s gb gw gl fb fw (fun i => fl i + ofL l i) w' := by
  have z1 := h.hl; have z2 := h.size; have z3 := h.szb; have z4 := h.szw
  refine (Ytpgkhlpepckfgaa.count_any w wr gl pl.length pl.length fl B cb l hl h.below (by omega) h.szl h.cl hm hf hin hn (Nat.le_refl _)).mono ?_
  rintro e w' ⟨rfl, h1, h2, h3, h4⟩
  exact ⟨rfl, ⟨h2, (h4 _ (by omega) (by omega)).trans h.farm, (h4 _ (by omega) (by omega)).trans h.store, by omega⟩, (h4 _ z3 h.bl).trans h.cb, (h4 _ z4 h.wl).trans h.cw, h1, h.hb, h.hw, h.hl, h.bw, h.bl, h.wl⟩
end
/-- With the row of the ledger, which begins at b. -/
structure L4 (w : World) (A : Option Addr) (c : Nat) (pl : List Plot) (dry : Int) (s : Store) (gb gw gl : Nat) (fb fw fl : Nat → Int) (b k : Nat) (v : Value) (wr : World) : Prop extends L3 w A c pl dry s gb gw gl fb fw fl wr where
  row : CRow wr b v (cntsL s k)
  b1 : gb < b
  b2 : gw < b
  b3 : gl < b
  b4 : b ≤ wr.heap.size
section
variable {w W w1 : World} {A : Option Addr} {c : Nat} {pl : List Plot} {dry : Int} {s : Store} {gb gw gl b k : Nat} {fb fw fl : Nat → Int} {v v' : Value} {o : Obj}
theorem L4.later (h : L4 w A c pl dry s gb gw gl fb fw fl b k v W) (hb : Below W.heap.size W w1) : L4 w A c pl dry s gb gw gl fb fw fl b k v w1 :=
  ⟨h.toL3.later hb, h.row.same fun j e => hb.block j (h.row.lt j e).2, h.b1, h.b2, h.b3, Nat.le_trans h.b4 hb.size⟩
theorem L4.start (h : L3 w A c pl dry s gb gw gl fb fw fl W) : L4 w A c pl dry s gb gw gl fb fw fl W.heap.size 0 (.slice none 0 0) W :=
  ⟨h, CRow.nil _ _, h.szb, h.szw, h.szl, Nat.le_refl _⟩
theorem L4.push {p : Cnt} (h : L4 w A c pl dry s gb gw gl fb fw fl b k v W) (hp : cntAt s k = p) (hown : w1.ownsRow b 55 4 v' ((cntsL s k).length + 1) ((cntsL s k).flatMap encCnt ++ encCnt p)) (hgrow : (W.alloc o).grownBy w1 v.ownBlock) : L4 w A c pl dry s gb gw gl fb fw fl b (k + 1) v' w1 := by
  subst hp
  have b0 : ∀ j, v.ownBlock = some j → b ≤ j ∧ j < W.heap.size := fun j hj => h.row.lt j hj
  have z0 := h.toFS.size
  have z1 := h.hb
  have e1 := h.b1
  have e2 := h.b2
  have e3 := h.b3
  have e4 := h.b4
  have hs := hgrow.size
  rw [World.size_alloc] at hs
  have hk : ∀ j, j < b → w1.heap[j]? = W.heap[j]? := fun j hj => (hgrow.block _ (by rw [World.size_alloc]; omega) (fun e => by have := (b0 _ e.symm).1; omega)).trans (Below.heap_alloc _ _ _ (by omega))
  refine ⟨⟨⟨(h.below.alloc h.below.size _).grown hgrow (by rw [World.size_alloc]; have := h.below.size; omega) (fun j hj => by have := (b0 j hj).1; omega), (hk _ (by omega)).trans h.farm, (hk _ (by omega)).trans h.store, by omega⟩, (hk _ e1).trans h.cb, (hk _ e2).trans h.cw, (hk _ e3).trans h.cl, h.hb, h.hw, h.hl, h.bw, h.bl, h.wl⟩, ?_, e1, e2, e3, by omega⟩
  rw [cntsL_succ]; exact CRow.snoc hown
theorem L4.arow (h : L4 w A c pl dry s gb gw gl fb fw fl b k v W) : (W.alloc o).ownsRow b 55 4 v (cntsL s k).length ((cntsL s k).flatMap encCnt) := (h.later ((Below.refl _ _).alloc (Nat.le_refl _) _)).row
theorem L4.base (h : L4 w A c pl dry s gb gw gl fb fw fl b k v W) : b ≤ (W.alloc o).heap.size := by
  rw [World.size_alloc]; have := h.b4; omega
end
end Go.Proofs.Ytpgkhlpepckfgaa
end
