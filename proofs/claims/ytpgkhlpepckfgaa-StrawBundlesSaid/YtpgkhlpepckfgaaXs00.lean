/-
  The law's sum of loads, walked. The ledger of the library: what lies in memory, plain. The bundles of a heap are together its parts: plain. No program is walked here.
-/
import Derived.Test.YtpgkhlpepckfgaaXa10
import Derived.Test.YtpgkhlpepckfgaaXa17
import Derived.Test.YtpgkhlpepckfgaaXa20
import Derived.Test.YtpgkhlpepckfgaaXh02
set_option linter.all false
set_option linter.unusedVariables false
set_option linter.unusedSimpArgs false
section
namespace Go.Proofs.Ytpgkhlpepckfgaa
open Go.RowKit Go.Lib

set_option maxHeartbeats 1000000 in
set_option maxRecDepth 100000 in
theorem lsum_of (A : Option Addr) (c : Nat) (l : List Portion) (i : Int) (w : World) (h : RdParts w A l) (hm : Mild l) (hi0 : 0 ≤ i) :
    Calls Try.prog 41 #[.slice A l.length c, .int .i64 i] w fun e w' => e = .returned (.int .i64 (ofL l i)) ∧ w = w' := by
  have hl := h.1
  have hlm := hm.1
  have hneg : ¬ i < 0 := by omega
  go_enter Try.func41, Try.ntmps41
  go_wp2
  go_loop [5, 6] (fun s j => ∃ k : Nat, s = .int .i64 (ofL (l.take k) i) ∧ j = .int .i64 k ∧ k ≤ l.length) (fun _ j => l.length - (intOf j).toNat)
  case atStart => exact ⟨0, rfl, rfl, by omega⟩
  case round =>
    obtain ⟨k, rfl, rfl, hk⟩ := hrel
    obtain ⟨t1, t2⟩ := hm.take k
    obtain ⟨b1, b2⟩ := ofL_bounds i t1
    by_cases hlt : k < l.length
    · obtain ⟨ad, hA, p0, p1⟩ := FlatRow.at2 h hlt rfl
      subst hA
      have hs := ofL_take l i k hlt
      obtain ⟨q1, q2⟩ := hm.2 _ (List.getElem_mem hlt)
      by_cases he : l[k].plot = i
      · rw [if_pos he] at hs
        replace hs := Lib.hid hs
        have heb : (l[k].plot == i) = true := by simpa using he
        replace he := Lib.hid he
        go_wp2
        exact ⟨⟨k + 1, by rw [hs.out], by go_num, by omega⟩, by simp only [intOf]; omega⟩
      · rw [if_neg he] at hs
        replace hs := Lib.hid hs
        have heb : (l[k].plot == i) = false := by simpa using he
        replace he := Lib.hid he
        go_wp2
        exact ⟨⟨k + 1, by rw [hs.out]; simp, by go_num, by omega⟩, by simp only [intOf]; omega⟩
    · have hke : k = l.length := by omega
      subst hke
      go_wp2
      go_ret
      simp

set_option maxHeartbeats 1000000 in
set_option maxRecDepth 100000 in
theorem lsum_all (A : Option Addr) (c : Nat) (l : List Portion) (w : World) (h : RdParts w A l) (hm : Mild l) :
    Calls Try.prog 41 #[.slice A l.length c, .int .i64 (-1)] w fun e w' => e = .returned (.int .i64 (sumL l)) ∧ w = w' := by
  have hl := h.1
  have hlm := hm.1
  go_enter Try.func41, Try.ntmps41
  go_wp2
  go_loop [5, 6] (fun s j => ∃ k : Nat, s = .int .i64 (sumL (l.take k)) ∧ j = .int .i64 k ∧ k ≤ l.length) (fun _ j => l.length - (intOf j).toNat)
  case atStart => exact ⟨0, rfl, rfl, by omega⟩
  case round =>
    obtain ⟨k, rfl, rfl, hk⟩ := hrel
    obtain ⟨t1, t2⟩ := hm.take k
    obtain ⟨b1, b2⟩ := sumL_bounds t1
    by_cases hlt : k < l.length
    · obtain ⟨ad, hA, p0, p1⟩ := FlatRow.at2 h hlt rfl
      subst hA
      have hs := sumL_take l k hlt
      obtain ⟨q1, q2⟩ := hm.2 _ (List.getElem_mem hlt)
      have hs := Lib.hid hs
      go_wp2
      exact ⟨⟨k + 1, by rw [hs.out], by go_num, by omega⟩, by simp only [intOf]; omega⟩
    · have hke : k = l.length := by omega
      subst hke
      go_wp2
      go_ret
      simp
end Go.Proofs.Ytpgkhlpepckfgaa
end
section
namespace Go.Proofs.Ytpgkhlpepckfgaa
open Go.RowKit Go.Lib

/-- Three rows of counts: bound, wasted, lying. -/
structure L3 (w : World) (A : Option Addr) (c : Nat) (pl : List Plot) (dry : Int) (s : Store) (gb gw gl : Nat) (fb fw fl : Nat → Int) (wr : World) : Prop extends FS w A c pl dry s wr where
  cb : wr.heap[gb]? = some (.cells (cntRow pl.length fb) 3 (0, 0))
  cw : wr.heap[gw]? = some (.cells (cntRow pl.length fw) 3 (0, 0))
  cl : wr.heap[gl]? = some (.cells (cntRow pl.length fl) 3 (0, 0))
  hb : w.heap.size + 2 ≤ gb
  hw : w.heap.size + 2 ≤ gw
  hl : w.heap.size + 2 ≤ gl
  bw : gb ≠ gw
  bl : gb ≠ gl
  wl : gw ≠ gl
section
variable {w : World} {A : Option Addr} {c : Nat} {pl : List Plot} {dry : Int} {s : Store} {gb gw gl k : Nat} {fb fw fl f' : Nat → Int} {wr wx : World}
theorem L3.szb (h : L3 w A c pl dry s gb gw gl fb fw fl wr) : gb < wr.heap.size := (Array.getElem?_eq_some_iff.1 h.cb).1
theorem L3.szw (h : L3 w A c pl dry s gb gw gl fb fw fl wr) : gw < wr.heap.size := (Array.getElem?_eq_some_iff.1 h.cw).1
theorem L3.szl (h : L3 w A c pl dry s gb gw gl fb fw fl wr) : gl < wr.heap.size := (Array.getElem?_eq_some_iff.1 h.cl).1
theorem L3.later (h : L3 w A c pl dry s gb gw gl fb fw fl wr) (hb : Below wr.heap.size wr wx) : L3 w A c pl dry s gb gw gl fb fw fl wx :=
  ⟨h.toFS.later hb, (hb.block _ h.szb).trans h.cb, (hb.block _ h.szw).trans h.cw, (hb.block _ h.szl).trans h.cl, h.hb, h.hw, h.hl, h.bw, h.bl, h.wl⟩
theorem L3.extL (h : L3 w A c pl dry s gb gw gl fb fw fl wr) (e : ∀ i, fl i = f' i) : L3 w A c pl dry s gb gw gl fb fw f' wr := by
  obtain rfl : fl = f' := funext e
  exact h
theorem L3.countB (h : L3 w A c pl dry s gb gw gl fb fw fl wr) (B : Option Addr) (cb : Nat) (l : List Portion) (hl : RdParts w B l) (hm : Mild l) (hin : ∀ p ∈ l, 0 ≤ p.plot ∧ p.plot < (pl.length : Int)) (hf : ∀ i, 0 ≤ fb i ∧ fb i ≤ 1000000000000000) (hn : pl.length ≤ 1000000) :
    Calls Try.prog 61 #[.slice (some ⟨gb, 0, none⟩) pl.length pl.length, .slice B l.length cb] wr fun e w' => e = .returned (.tuple #[]) ∧ L3 w A c pl dry s gb gw gl (fun i => fb i + ofL l i) fw fl w' := by
  have z1 := h.hb; have z2 := h.size; have z3 := h.szw; have z4 := h.szl
  refine (Ytpgkhlpepckfgaa.count_any w wr gb pl.length pl.length fb B cb l hl h.below (by omega) h.szb h.cb hm hf hin hn (Nat.le_refl _)).mono ?_
  rintro e w' ⟨rfl, h1, h2, h3, h4⟩
  exact ⟨rfl, ⟨h2, (h4 _ (by omega) (by omega)).trans h.farm, (h4 _ (by omega) (by omega)).trans h.store, by omega⟩, h1, (h4 _ z3 h.bw.symm).trans h.cw, (h4 _ z4 h.bl.symm).trans h.cl, h.hb, h.hw, h.hl, h.bw, h.bl, h.wl⟩
theorem L3.countW (h : L3 w A c pl dry s gb gw gl fb fw fl wr) (B : Option Addr) (cb : Nat) (l : List Portion) (hl : RdParts w B l) (hm : Mild l) (hin : ∀ p ∈ l, 0 ≤ p.plot ∧ p.plot < (pl.length : Int)) (hf : ∀ i, 0 ≤ fw i ∧ fw i ≤ 1000000000000000) (hn : pl.length ≤ 1000000) :
    Calls Try.prog 61 #[.slice (some ⟨gw, 0, none⟩) pl.length pl.length, .slice B l.length cb] wr fun e w' => e = .returned (.tuple #[]) ∧ L3 w A c pl dry s gb gw gl fb (fun i => fw i + ofL l i) fl w' := by
  have z1 := h.hw; have z2 := h.size; have z3 := h.szb; have z4 := h.szl
  refine (Ytpgkhlpepckfgaa.count_any w wr gw pl.length pl.length fw B cb l hl h.below (by omega) h.szw h.cw hm hf hin hn (Nat.le_refl _)).mono ?_
  rintro e w' ⟨rfl, h1, h2, h3, h4⟩
  exact ⟨rfl, ⟨h2, (h4 _ (by omega) (by omega)).trans h.farm, (h4 _ (by omega) (by omega)).trans h.store, by omega⟩, (h4 _ z3 h.bw).trans h.cb, h1, (h4 _ z4 h.wl.symm).trans h.cl, h.hb, h.hw, h.hl, h.bw, h.bl, h.wl⟩
theorem L3.countL (h : L3 w A c pl dry s gb gw gl fb fw fl wr) (B : Option Addr) (cb : Nat) (l : List Portion) (hl : RdParts w B l) (hm : Mild l) (hin : ∀ p ∈ l, 0 ≤ p.plot ∧ p.plot < (pl.length : Int)) (hf : ∀ i, 0 ≤ fl i ∧ fl i ≤ 1000000000000000) (hn : pl.length ≤ 1000000) :
    Calls Try.prog 61 #[.slice (some ⟨gl, 0, none⟩) pl.length pl.length, .slice B l.length cb] wr fun e w' => e = .returned (.tuple #[]) ∧ L3 w A c pl dry s gb gw gl fb fw (fun i => fl i + ofL l i) w' := by
  have z1 := h.hl; have z2 := h.size; have z3 := h.szb; have z4 := h.szw
  refine (Ytpgkhlpepckfgaa.count_any w wr gl pl.length pl.length fl B cb l hl h.below (by omega) h.szl h.cl hm hf hin hn (Nat.le_refl _)).mono ?_
  rintro e w' ⟨rfl, h1, h2, h3, h4⟩
  exact ⟨rfl, ⟨h2, (h4 _ (by omega) (by omega)).trans h.farm, (h4 _ (by omega) (by omega)).trans h.store, by omega⟩, (h4 _ z3 h.bl).trans h.cb, (h4 _ z4 h.wl).trans h.cw, h1, h.hb, h.hw, h.hl, h.bw, h.bl, h.wl⟩
end
/-- With the row of the ledger, which begins at b. -/
structure L4 (w : World) (A : Option Addr) (c : Nat) (pl : List Plot) (dry : Int) (s : Store) (gb gw gl : Nat) (fb fw fl : Nat → Int) (b k : Nat) (v : Value) (wr : World) : Prop extends L3 w A c pl dry s gb gw gl fb fw fl wr where
  row : CRow wr b v (cntsL s k)
  b1 : gb < b
  b2 : gw < b
  b3 : gl < b
  b4 : b ≤ wr.heap.size
section
variable {w W w1 : World} {A : Option Addr} {c : Nat} {pl : List Plot} {dry : Int} {s : Store} {gb gw gl b k : Nat} {fb fw fl : Nat → Int} {v v' : Value} {o : Obj}
theorem L4.later (h : L4 w A c pl dry s gb gw gl fb fw fl b k v W) (hb : Below W.heap.size W w1) : L4 w A c pl dry s gb gw gl fb fw fl b k v w1 :=
  ⟨h.toL3.later hb, h.row.same fun j e => hb.block j (h.row.lt j e).2, h.b1, h.b2, h.b3, Nat.le_trans h.b4 hb.size⟩
theorem L4.start (h : L3 w A c pl dry s gb gw gl fb fw fl W) : L4 w A c pl dry s gb gw gl fb fw fl W.heap.size 0 (.slice none 0 0) W :=
  ⟨h, CRow.nil _ _, h.szb, h.szw, h.szl, Nat.le_refl _⟩
theorem L4.push {p : Cnt} (h : L4 w A c pl dry s gb gw gl fb fw fl b k v W) (hp : cntAt s k = p) (hown : w1.ownsRow b 55 4 v' ((cntsL s k).length + 1) ((cntsL s k).flatMap encCnt ++ encCnt p)) (hgrow : (W.alloc o).grownBy w1 v.ownBlock) : L4 w A c pl dry s gb gw gl fb fw fl b (k + 1) v' w1 := by
  subst hp
  have b0 : ∀ j, v.ownBlock = some j → b ≤ j ∧ j < W.heap.size := fun j hj => h.row.lt j hj
  have z0 := h.toFS.size
  have z1 := h.hb
  have e1 := h.b1
  have e2 := h.b2
  have e3 := h.b3
  have e4 := h.b4
  have hs := hgrow.size
  rw [World.size_alloc] at hs
  have hk : ∀ j, j < b → w1.heap[j]? = W.heap[j]? := fun j hj => (hgrow.block _ (by rw [World.size_alloc]; omega) (fun e => by have := (b0 _ e.symm).1; omega)).trans (Below.heap_alloc _ _ _ (by omega))
  refine ⟨⟨⟨(h.below.alloc h.below.size _).grown hgrow (by rw [World.size_alloc]; have := h.below.size; omega) (fun j hj => by have := (b0 j hj).1; omega), (hk _ (by omega)).trans h.farm, (hk _ (by omega)).trans h.store, by omega⟩, (hk _ e1).trans h.cb, (hk _ e2).trans h.cw, (hk _ e3).trans h.cl, h.hb, h.hw, h.hl, h.bw, h.bl, h.wl⟩, ?_, e1, e2, e3, by omega⟩
  rw [cntsL_succ]; exact CRow.snoc hown
theorem L4.arow (h : L4 w A c pl dry s gb gw gl fb fw fl b k v W) : (W.alloc o).ownsRow b 55 4 v (cntsL s k).length ((cntsL s k).flatMap encCnt) := (h.later ((Below.refl _ _).alloc (Nat.le_refl _) _)).row
theorem L4.base (h : L4 w A c pl dry s gb gw gl fb fw fl b k v W) : b ≤ (W.alloc o).heap.size := by
  rw [World.size_alloc]; have := h.b4; omega
end
end Go.Proofs.Ytpgkhlpepckfgaa
end
section
namespace Go.Proofs.Ytpgkhlpepckfgaa
open Go.RowKit Go.Lib

theorem cut_whole : ∀ {l : List Portion}, Pos l → cutF l (sumL l) = l
  | [], _ => rfl
  | p :: l, h => by
    obtain ⟨h1, h2⟩ := h.tail
    have hs := h2.sum
    rw [sumL_cons]
    rcases cut_cases (n := p.loads + sumL l) h1 h2 (by omega) with ⟨g0, _⟩ | ⟨_, g0, _⟩ | ⟨g0, gF, _⟩
    · omega
    · have e : sumL l = 0 := by omega
      omega
    · have e : p.loads + sumL l - p.loads = sumL l := by omega
      rw [gF, e, cut_whole h2]
theorem behind_adj : ∀ (l u : List Portion), Adj (u ++ l) → behindP u l = u ++ l
  | [], u, _ => by simp [behindP_nil]
  | p :: l, u, h => by
    have e : u ++ p :: l = (u ++ [p]) ++ l := by simp
    rw [e] at h ⊢
    have hp : addPart u p = u ++ [p] := by
      rcases List.eq_nil_or_concat u with rfl | ⟨u0, q, rfl⟩
      · exact add_nil p
      · rw [List.concat_eq_append, add_snoc, if_neg]
        rw [List.concat_eq_append] at h
        have h2 : Adj (u0 ++ [q] ++ [p]) := by
          clear e
          have key : ∀ (a b : List Portion), Adj (a ++ b) → Adj a := by
            intro a b
            induction a with
            | nil => intro _; trivial
            | cons x a ih =>
              intro h
              refine ⟨fun y hy => h.1 y ?_, ih h.2⟩
              cases a with
              | nil => cases hy
              | cons z a => exact hy
          exact key _ _ h
        exact ((adj_snoc _ _).1 h2).2 q (by simp)
    show behindP (addPart u p) l = _
    rw [hp]
    exact behind_adj l (u ++ [p]) h
/-- What the first k bundles are together. -/
def bunG (l : List Portion) (per : Int) (k : Nat) : List Portion := behindP [] (cutF l ((k : Int) * per))
theorem bunG_zero {l : List Portion} (h : Pos l) (per : Int) : bunG l per 0 = [] := by
  unfold bunG
  rw [(cut_zero' h (by simp)).1]; rfl
theorem bunG_succ {l : List Portion} (h : Pos l) {per : Int} (hp : 0 ≤ per) (k : Nat) : bunG l per (k + 1) = behindP (bunG l per k) (cutF (cutR l ((k : Int) * per)) per) := by
  unfold bunG
  rw [(cut_cut l [] ((k : Int) * per) per h (Int.mul_nonneg (by omega) hp) hp).2]
  congr 2
  rw [show ((k + 1 : Nat) : Int) = (k : Int) + 1 by omega, Int.add_mul, Int.one_mul]
theorem bunG_all {l : List Portion} (h : Pos l) (ha : Adj l) {per : Int} {k : Nat} (hk : (k : Int) * per = sumL l) : bunG l per k = l := by
  unfold bunG
  rw [hk, cut_whole h, behind_adj l [] (by simpa using ha)]; simp
theorem bun_sum {l : List Portion} (h : Pos l) {per : Int} (hp : 0 ≤ per) {k : Nat} (hk : ((k : Int) + 1) * per ≤ sumL l) : sumL (cutF (cutR l ((k : Int) * per)) per) = per := by
  have hn : 0 ≤ (k : Int) * per := Int.mul_nonneg (by omega) hp
  have c := cut_law l _ h hn
  have c2 := cut_law _ per c.posR hp
  have e : ((k : Int) + 1) * per = (k : Int) * per + per := by rw [Int.add_mul, Int.one_mul]
  have := c.sum
  have := c.sumF
  have := c2.sumF
  omega
theorem bunG_law {l : List Portion} (h : Pos l) {per : Int} (hp : 0 ≤ per) (k : Nat) : Pos (bunG l per k) ∧ sumL (bunG l per k) ≤ sumL l := by
  have c := cut_law l ((k : Int) * per) h (Int.mul_nonneg (by omega) hp)
  have a := behind_law (cutF l ((k : Int) * per)) (l := []) (by simp [Pos]) c.posF
  refine ⟨a.pos, ?_⟩
  unfold bunG
  rw [a.sum, sumL_nil, c.sumF]
  omega
theorem behind_bd {o P : List Portion} (ho : Pos o) (hP : Pos P) {N : Int} (hs : sumL o + sumL P ≤ N) (m : Nat) : ((behindP o (P.take m)).length : Int) ≤ N ∧ ∀ x ∈ behindP o (P.take m), 0 ≤ x.loads ∧ x.loads ≤ N := by
  have hp : Pos (P.take m) := fun x hx => hP x (List.mem_of_mem_take hx)
  have hd : Pos (P.drop m) := fun x hx => hP x (List.mem_of_mem_drop hx)
  have a := behind_law (P.take m) ho hp
  have e : sumL P = sumL (P.take m) + sumL (P.drop m) := by
    have := sumL_app (P.take m) (P.drop m)
    rwa [List.take_append_drop] at this
  have h1 := hd.sum
  have h2 := a.sum
  have h3 := a.pos.len
  refine ⟨by omega, fun x hx => ?_⟩
  have := a.pos x hx
  have := a.pos.le x hx
  omega
/-- What is asked of a heap's bundle. -/
theorem bun_ask {pl : List Plot} {dry : Int} {s : Store} (h : checkS pl dry s = 0) {i : Nat} (hi : i < s.heaps.length) (k : Int) : bundleP pl dry s (s.heaps.getD i default).name k =
    if (s.heaps.getD i default).stage ≠ 3 then ([], 8) else if inB k 0 (sumL (s.heaps.getD i default).parts / (s.heaps.getD i default).per - 1) = false then ([], 1) else
      (cutF (cutR (s.heaps.getD i default).parts (k * (s.heaps.getD i default).per)) (s.heaps.getD i default).per, 0) := by
  unfold bundleP
  rw [idx_at (check_ok h).names hi, h, if_neg (by decide), if_neg (show ¬ ((i : Nat) : Int) < 0 by omega), Int.toNat_natCast]
end Go.Proofs.Ytpgkhlpepckfgaa
end
