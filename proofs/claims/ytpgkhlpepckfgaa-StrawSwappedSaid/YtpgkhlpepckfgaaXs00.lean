/-
  The law's sum of loads, walked. The ledger of the library: what lies in memory, plain. The specification's Choose, walked. What fields cost and whether they give enough: the law's own count, walked. What is known of the best choice. Plain lists and numbers.
-/
import Derived.Test.YtpgkhlpepckfgaaXa09
import Derived.Test.YtpgkhlpepckfgaaXa10
import Derived.Test.YtpgkhlpepckfgaaXa11
import Derived.Test.YtpgkhlpepckfgaaXa14
import Derived.Test.YtpgkhlpepckfgaaXa17
import Derived.Test.YtpgkhlpepckfgaaXa20
set_option linter.all false
set_option linter.unusedVariables false
set_option linter.unusedSimpArgs false
section
namespace Go.Proofs.Ytpgkhlpepckfgaa
open Go.RowKit Go.Lib

set_option maxHeartbeats 1000000 in
set_option maxRecDepth 100000 in
theorem lsum_of (A : Option Addr) (c : Nat) (l : List Portion) (i : Int) (w : World) (h : RdParts w A l) (hm : Mild l) (hi0 : 0 ≤ i) :
    Calls Try.prog 41 #[.slice A l.length c, .int .i64 i] w fun e w' => e = .returned (.int .i64 (ofL l i)) ∧ w = w' := by
  have hl := h.1
  have hlm := hm.1
  have hneg : ¬ i < 0 := by omega
  go_enter Try.func41, Try.ntmps41
  go_wp2
  go_loop [5, 6] (fun s j => ∃ k : Nat, s = .int .i64 (ofL (l.take k) i) ∧ j = .int .i64 k ∧ k ≤ l.length) (fun _ j => l.length - (intOf j).toNat)
  case atStart => exact ⟨0, rfl, rfl, by omega⟩
  case round =>
    obtain ⟨k, rfl, rfl, hk⟩ := hrel
    obtain ⟨t1, t2⟩ := hm.take k
    obtain ⟨b1, b2⟩ := ofL_bounds i t1
    by_cases hlt : k < l.length
    · obtain ⟨ad, hA, p0, p1⟩ := FlatRow.at2 h hlt rfl
      subst hA
      have hs := ofL_take l i k hlt
      obtain ⟨q1, q2⟩ := hm.2 _ (List.getElem_mem hlt)
      by_cases he : l[k].plot = i
      · rw [if_pos he] at hs
        replace hs := Lib.hid hs
        have heb : (l[k].plot == i) = true := by simpa using he
        replace he := Lib.hid he
        go_wp2
        exact ⟨⟨k + 1, by rw [hs.out], by go_num, by omega⟩, by simp only [intOf]; omega⟩
      · rw [if_neg he] at hs
        replace hs := Lib.hid hs
        have heb : (l[k].plot == i) = false := by simpa using he
        replace he := Lib.hid he
        go_wp2
        exact ⟨⟨k + 1, by rw [hs.out]; simp, by go_num, by omega⟩, by simp only [intOf]; omega⟩
    · have hke : k = l.length := by omega
      subst hke
      go_wp2
      go_ret
      simp

set_option maxHeartbeats 1000000 in
set_option maxRecDepth 100000 in
theorem lsum_all (A : Option Addr) (c : Nat) (l : List Portion) (w : World) (h : RdParts w A l) (hm : Mild l) :
    Calls Try.prog 41 #[.slice A l.length c, .int .i64 (-1)] w fun e w' => e = .returned (.int .i64 (sumL l)) ∧ w = w' := by
  have hl := h.1
  have hlm := hm.1
  go_enter Try.func41, Try.ntmps41
  go_wp2
  go_loop [5, 6] (fun s j => ∃ k : Nat, s = .int .i64 (sumL (l.take k)) ∧ j = .int .i64 k ∧ k ≤ l.length) (fun _ j => l.length - (intOf j).toNat)
  case atStart => exact ⟨0, rfl, rfl, by omega⟩
  case round =>
    obtain ⟨k, rfl, rfl, hk⟩ := hrel
    obtain ⟨t1, t2⟩ := hm.take k
    obtain ⟨b1, b2⟩ := sumL_bounds t1
    by_cases hlt : k < l.length
    · obtain ⟨ad, hA, p0, p1⟩ := FlatRow.at2 h hlt rfl
      subst hA
      have hs := sumL_take l k hlt
      obtain ⟨q1, q2⟩ := hm.2 _ (List.getElem_mem hlt)
      have hs := Lib.hid hs
      go_wp2
      exact ⟨⟨k + 1, by rw [hs.out], by go_num, by omega⟩, by simp only [intOf]; omega⟩
    · have hke : k = l.length := by omega
      subst hke
      go_wp2
      go_ret
      simp
end Go.Proofs.Ytpgkhlpepckfgaa
end
section
namespace Go.Proofs.Ytpgkhlpepckfgaa
open Go.RowKit Go.Lib

/-- Three rows of counts: bound, wasted, lying. -/
structure L3 (w : World) (A : Option Addr) (c : Nat) (pl : List Plot) (dry : Int) (s : Store) (gb gw gl : Nat) (fb fw fl : Nat → Int) (wr : World) : Prop extends FS w A c pl dry s wr where
  cb : wr.heap[gb]? = some (.cells (cntRow pl.length fb) 3 (0, 0))
  cw : wr.heap[gw]? = some (.cells (cntRow pl.length fw) 3 (0, 0))
  cl : wr.heap[gl]? = some (.cells (cntRow pl.length fl) 3 (0, 0))
  hb : w.heap.size + 2 ≤ gb
  hw : w.heap.size + 2 ≤ gw
  hl : w.heap.size + 2 ≤ gl
  bw : gb ≠ gw
  bl : gb ≠ gl
  wl : gw ≠ gl
section
variable {w : World} {A : Option Addr} {c : Nat} {pl : List Plot} {dry : Int} {s : Store} {gb gw gl k : Nat} {fb fw fl f' : Nat → Int} {wr wx : World}
theorem L3.szb (h : L3 w A c pl dry s gb gw gl fb fw fl wr) : gb < wr.heap.size := (Array.getElem?_eq_some_iff.1 h.cb).1
theorem L3.szw (h : L3 w A c pl dry s gb gw gl fb fw fl wr) : gw < wr.heap.size := (Array.getElem?_eq_some_iff.1 h.cw).1
theorem L3.szl (h : L3 w A c pl dry s gb gw gl fb fw fl wr) : gl < wr.heap.size := (Array.getElem?_eq_some_iff.1 h.cl).1
theorem L3.later (h : L3 w A c pl dry s gb gw gl fb fw fl wr) (hb : Below wr.heap.size wr wx) : L3 w A c pl dry s gb gw gl fb fw fl wx :=
  ⟨h.toFS.later hb, (hb.block _ h.szb).trans h.cb, (hb.block _ h.szw).trans h.cw, (hb.block _ h.szl).trans h.cl, h.hb, h.hw, h.hl, h.bw, h.bl, h.wl⟩
theorem L3.extL (h : L3 w A c pl dry s gb gw gl fb fw fl wr) (e : ∀ i, fl i = f' i) : L3 w A c pl dry s gb gw gl fb fw f' wr := by
  obtain rfl : fl = f' := funext e
  exact h
theorem L3.countB (h : L3 w A c pl dry s gb gw gl fb fw fl wr) (B : Option Addr) (cb : Nat) (l : List Portion) (hl : RdParts w B l) (hm : Mild l) (hin : ∀ p ∈ l, 0 ≤ p.plot ∧ p.plot < (pl.length : Int)) (hf : ∀ i, 0 ≤ fb i ∧ fb i ≤ 1000000000000000) (hn : pl.length ≤ 1000000) :
    Calls Try.prog 61 #[.slice (some ⟨gb, 0, none⟩) pl.length pl.length, .slice B l.length cb] wr fun e w' => e = .returned (.tuple #[]) ∧ L3 w A c pl dry s gb gw gl (fun i => fb i + ofL l i) fw fl w' := by
  have z1 := h.hb; have z2 := h.size; have z3 := h.szw; have z4 := h.szl
  refine (Ytpgkhlpepckfgaa.count_any w wr gb pl.length pl.length fb B cb l hl h.below (by omega) h.szb h.cb hm hf hin hn (Nat.le_refl _)).mono ?_
  rintro e w' ⟨rfl, h1, h2, h3, h4⟩
  exact ⟨rfl, ⟨h2, (h4 _ (by omega) (by omega)).trans h.farm, (h4 _ (by omega) (by omega)).trans h.store, by omega⟩, h1, (h4 _ z3 h.bw.symm).trans h.cw, (h4 _ z4 h.bl.symm).trans h.cl, h.hb, h.hw, h.hl, h.bw, h.bl, h.wl⟩
theorem L3.countW (h : L3 w A c pl dry s gb gw gl fb fw fl wr) (B : Option Addr) (cb : Nat) (l : List Portion) (hl : RdParts w B l) (hm : Mild l) (hin : ∀ p ∈ l, 0 ≤ p.plot ∧ p.plot < (pl.length : Int)) (hf : ∀ i, 0 ≤ fw i ∧ fw i ≤ 1000000000000000) (hn : pl.length ≤ 1000000) :
    Calls Try.prog 61 #[.slice (some ⟨gw, 0, none⟩) pl.length pl.length, .slice B l.length cb] wr fun e w' => e = .returned (.tuple #[]) ∧ L3 w A c pl dry s gb gw gl fb (fun i => fw i + ofL l i) fl w' := by
  have z1 := h.hw; have z2 := h.size; have z3 := h.szb; have z4 := h.szl
  refine (Ytpgkhlpepckfgaa.count_any w wr gw pl.length pl.length fw B cb l hl h.below (by omega) h.szw h.cw hm hf hin hn (Nat.le_refl _)).mono ?_
  rintro e w' ⟨rfl, h1, h2, h3, h4⟩
  exact ⟨rfl, ⟨h2, (h4 _ (by omega) (by omega)).trans h.farm, (h4 _ (by omega) (by omega)).trans h.store, by omega⟩, (h4 _ z3 h.bw).trans h.cb, h1, (h4 _ z4 h.wl.symm).trans h.cl, h.hb, h.hw, h.hl, h.bw, h.bl, h.wl⟩
theorem L3.countL (h : L3 w A c pl dry s gb gw gl fb fw fl wr) (B : Option Addr) (cb : Nat) (l : List Portion) (hl : RdParts w B l) (hm : Mild l) (hin : ∀ p ∈ l, 0 ≤ p.plot ∧ p.plot < (pl.length : Int)) (hf : ∀ i, 0 ≤ fl i ∧ fl i ≤ 1000000000000000) (hn : pl.length ≤ 1000000) :
    Calls Try.prog 61 #[.slice (some ⟨gl, 0, none⟩) pl.length pl.length, .slice B l.length cb] wr fun e w' => e = .returned (.tuple #[]) ∧ L3 w A c pl dry s gb gw gl fb fw (fun i => fl i + ofL l i) w' := by
  have z1 := h.hl; have z2 := h.size; have z3 := h.szb; have z4 := h.szw
  refine (Ytpgkhlpepckfgaa.count_any w wr gl pl.length pl.length fl B cb l hl h.below (by omega) h.szl h.cl hm hf hin hn (Nat.le_refl _)).mono ?_
  rintro e w' ⟨rfl, h1, h2, h3, h4⟩
  exact ⟨rfl, ⟨h2, (h4 _ (by omega) (by omega)).trans h.farm, (h4 _ (by omega) (by omega)).trans h.store, by omega⟩, (h4 _ z3 h.bl).trans h.cb, (h4 _ z4 h.wl).trans h.cw, h1, h.hb, h.hw, h.hl, h.bw, h.bl, h.wl⟩
end
/-- With the row of the ledger, which begins at b. -/
structure L4 (w : World) (A : Option Addr) (c : Nat) (pl : List Plot) (dry : Int) (s : Store) (gb gw gl : Nat) (fb fw fl : Nat → Int) (b k : Nat) (v : Value) (wr : World) : Prop extends L3 w A c pl dry s gb gw gl fb fw fl wr where
  row : CRow wr b v (cntsL s k)
  b1 : gb < b
  b2 : gw < b
  b3 : gl < b
  b4 : b ≤ wr.heap.size
section
variable {w W w1 : World} {A : Option Addr} {c : Nat} {pl : List Plot} {dry : Int} {s : Store} {gb gw gl b k : Nat} {fb fw fl : Nat → Int} {v v' : Value} {o : Obj}
theorem L4.later (h : L4 w A c pl dry s gb gw gl fb fw fl b k v W) (hb : Below W.heap.size W w1) : L4 w A c pl dry s gb gw gl fb fw fl b k v w1 :=
  ⟨h.toL3.later hb, h.row.same fun j e => hb.block j (h.row.lt j e).2, h.b1, h.b2, h.b3, Nat.le_trans h.b4 hb.size⟩
theorem L4.start (h : L3 w A c pl dry s gb gw gl fb fw fl W) : L4 w A c pl dry s gb gw gl fb fw fl W.heap.size 0 (.slice none 0 0) W :=
  ⟨h, CRow.nil _ _, h.szb, h.szw, h.szl, Nat.le_refl _⟩
theorem L4.push {p : Cnt} (h : L4 w A c pl dry s gb gw gl fb fw fl b k v W) (hp : cntAt s k = p) (hown : w1.ownsRow b 55 4 v' ((cntsL s k).length + 1) ((cntsL s k).flatMap encCnt ++ encCnt p)) (hgrow : (W.alloc o).grownBy w1 v.ownBlock) : L4 w A c pl dry s gb gw gl fb fw fl b (k + 1) v' w1 := by
  subst hp
  have b0 : ∀ j, v.ownBlock = some j → b ≤ j ∧ j < W.heap.size := fun j hj => h.row.lt j hj
  have z0 := h.toFS.size
  have z1 := h.hb
  have e1 := h.b1
  have e2 := h.b2
  have e3 := h.b3
  have e4 := h.b4
  have hs := hgrow.size
  rw [World.size_alloc] at hs
  have hk : ∀ j, j < b → w1.heap[j]? = W.heap[j]? := fun j hj => (hgrow.block _ (by rw [World.size_alloc]; omega) (fun e => by have := (b0 _ e.symm).1; omega)).trans (Below.heap_alloc _ _ _ (by omega))
  refine ⟨⟨⟨(h.below.alloc h.below.size _).grown hgrow (by rw [World.size_alloc]; have := h.below.size; omega) (fun j hj => by have := (b0 j hj).1; omega), (hk _ (by omega)).trans h.farm, (hk _ (by omega)).trans h.store, by omega⟩, (hk _ e1).trans h.cb, (hk _ e2).trans h.cw, (hk _ e3).trans h.cl, h.hb, h.hw, h.hl, h.bw, h.bl, h.wl⟩, ?_, e1, e2, e3, by omega⟩
  rw [cntsL_succ]; exact CRow.snoc hown
theorem L4.arow (h : L4 w A c pl dry s gb gw gl fb fw fl b k v W) : (W.alloc o).ownsRow b 55 4 v (cntsL s k).length ((cntsL s k).flatMap encCnt) := (h.later ((Below.refl _ _).alloc (Nat.le_refl _) _)).row
theorem L4.base (h : L4 w A c pl dry s gb gw gl fb fw fl b k v W) : b ≤ (W.alloc o).heap.size := by
  rw [World.size_alloc]; have := h.b4; omega
end
end Go.Proofs.Ytpgkhlpepckfgaa
end
section
namespace Go.Proofs.Ytpgkhlpepckfgaa
open Go.RowKit Go.Lib

/-- What the specification's Choose answers. -/
def chooseR (l : List Plot) (dry : Int) (n : Need) : Best × Int :=
  if checkI l dry ≠ 0 then (⟨false, 0, []⟩, checkI l dry)
  else if (inB n.reed 0 100000 && inB n.straw 0 100000 && inB n.heather 0 100000) = false then (⟨false, 0, []⟩, 1)
  else (refC l n (2 ^ l.length), 0)
theorem chooseR_eq (l : List Plot) (dry : Int) (n : Need) : chooseR l dry n = chooseP l dry n := by
  unfold chooseR chooseP; rw [choose_one]

theorem pow_wrap {k : Nat} (h : k ≤ 12) : wrap64 (2 ^ k) = ((2 ^ k : Nat) : Int) := by
  have : (2 ^ k : Nat) ≤ 4096 := Nat.pow_le_pow_right (n := 2) (by omega) h
  have e : ((2 : Int) ^ k) = ((2 ^ k : Nat) : Int) := by simp
  rw [e]
  generalize hx : (2 ^ k : Nat) = x at *
  unfold wrap64
  omega
theorem testBit_int (m i : Nat) (h : m < 5000) : (bits BinOp.and IntKind.i64 ((m : Int) / 2 ^ i) 1 == 1) = m.testBit i := by
  have e : ((m : Int) / 2 ^ i) = ((m / 2 ^ i : Nat) : Int) := by simp
  rw [e]
  have hle : m / 2 ^ i ≤ m := Nat.div_le_self _ _
  rw [Nat.testBit_eq_decide_div_mod_eq]
  generalize m / 2 ^ i = q at *
  have hq : bits BinOp.and IntKind.i64 (q : Int) 1 = (q : Int) % 2 := by
    unfold bits
    simp only [BitVec.ofInt_natCast, show ((1 : Int)) = ((1 : Nat) : Int) from rfl, BitVec.toNat_and, BitVec.toNat_ofNat]
    have a1 : q % 2 ^ IntKind.i64.bits = q := Nat.mod_eq_of_lt (by show q < 2 ^ 64; omega)
    have a2 : 1 % 2 ^ IntKind.i64.bits = 1 := rfl
    rw [a1, a2, Nat.and_one_is_mod, IntKind.wrap_i64]
    omega
  rw [hq]
  rw [Bool.eq_iff_iff]
  simp
  omega
theorem pick_len (i m : Nat) : (pick i m).length ≤ i := by
  have := (pick_sublist i m).length_le
  simpa [fields] using this
theorem pick_in {l : List Plot} {i m : Nat} (hi : i ≤ l.length) : InFields l (pick i m) := fun x hx => by
  have := (pick_sublist i m).subset hx
  simp only [fields, List.mem_map, List.mem_range'] at this
  obtain ⟨j, ⟨k, hk, rfl⟩, rfl⟩ := this
  omega
theorem cost_bounds {l : List Plot} (hok : ∀ p ∈ l, plotOk p = true) : ∀ s : List Int, 0 ≤ costOf l s ∧ costOf l s ≤ 1000000 * s.length
  | [] => by simp [costOf]
  | i :: s => by
    obtain ⟨h0, h1⟩ := cost_bounds hok s
    have hp : 0 ≤ (plotAt l i).cost ∧ (plotAt l i).cost ≤ 1000000 := by
      unfold plotAt
      by_cases hi : i.toNat < l.length
      · rw [getD_lt _ hi]
        have := plotOk_bounds (hok _ (List.getElem_mem hi))
        omega
      · rw [List.getD_eq_getElem?_getD, List.getElem?_eq_none (by omega)]
        exact ⟨by decide, by decide⟩
    simp only [costOf, List.map_cons, List.sum_cons, List.length_cons] at h0 h1 ⊢
    omega
theorem cells_two {w : World} {b : Nat} {x y : Value} {t : TypeId} (h : w.heap[b]? = some (.cells #[x, y] t (0, 0))) : w.cell? ⟨b, 0, none⟩ = some x ∧ w.cell? ⟨b, 1, none⟩ = some y := by
  refine ⟨?_, ?_⟩ <;> simp [World.cell?, h]
abbrev W2 (w : World) (f n : Array Value) : World := (w.alloc (.cells f 24)).alloc (.cells n 26)
theorem two_below (w : World) (f n : Array Value) : Below w.heap.size w (W2 w f n) := ((Below.refl _ w).alloc (Nat.le_refl _) _).alloc (by simp) _
theorem two_cells (w : World) (f n : Array Value) {w1 : World} (hb : Below (W2 w f n).heap.size (W2 w f n) w1) : w.heap.size + 2 ≤ w1.heap.size ∧ w1.heap[w.heap.size]? = some (.cells f 24 (0, 0)) ∧ w1.heap[w.heap.size + 1]? = some (.cells n 26 (0, 0)) := by
  have hs := hb.size
  simp at hs
  exact ⟨by omega, (hb.block _ (by simp; omega)).trans (heap_old _ _ _ _ (heap_new _ _ _ rfl)), (hb.block _ (by simp)).trans (heap_new _ _ _ (by simp))⟩

set_option maxHeartbeats 2000000 in
set_option maxRecDepth 100000 in
theorem rchoose_any (A : Option Addr) (c : Nat) (l : List Plot) (dry : Int) (n : Need) (w : World) (h : RdPlots w A l) :
    Calls Try.prog 19 #[.agg #[.slice A l.length c, .int .i64 dry], .agg #[.int .i64 n.reed, .int .i64 n.straw, .int .i64 n.heather]] w fun e w' => Chosen (chooseR l dry n) w e w' := by
  by_cases hck : checkI l dry = 0
  · have hb0 : (checkI l dry == 0) = true := by rw [hck]; rfl
    have hb0' : (checkI l dry != 0) = false := by rw [hck]; rfl
    by_cases hin : (inB n.reed 0 100000 && inB n.straw 0 100000 && inB n.heather 0 100000) = false
    · have hR : Hid (chooseR l dry n = (⟨false, 0, []⟩, 1)) := by unfold Hid chooseR; rw [if_neg (fun h => h hck), if_pos hin]
      have hin := Lib.hid hin
      have hck := Lib.hid hck
      go_enter Try.func19, Try.ntmps19
      go_wp2_with (first | (go_at_call 26; refine (rcheck_any _ _ _ _ _ (h.below (two_below w _ _))).mono ?_; rintro e w1 ⟨rfl, hb1⟩; obtain ⟨hz1, hF, hN⟩ := two_cells w _ _ hb1; obtain ⟨n1, n2, n3⟩ := cells_three hN; have g1 := cell_of_two hF) | (go_at_call 49; refine (rin_any _ _ _ _).mono ?_; rintro e w' ⟨rfl, rfl⟩))
      all_goals first
        | (exfalso; have := hin.out; simp_all; done)
        | (refine bodyPost_ret (v := .tuple #[.slice none 0 0, .int .i64 0, .bool false, .int .i64 1]) (by simp [results, Try.results19, go_sem]) rfl ?_
           exact ⟨none, 0, by rw [hR.out]; rfl, by rw [hR.out]; exact ⟨by simp, by simp⟩, (two_below w _ _).trans (hb1.mono (by simp; omega))⟩)
    · have hR : Hid (chooseR l dry n = (refC l n (2 ^ l.length), 0)) := by unfold Hid chooseR; rw [if_neg (fun h => h hck), if_neg hin]
      have h12 : Hid (l.length ≤ 12) := (checkI_zero hck).1
      have hok : Hid (∀ p ∈ l, plotOk p = true) := checkI_ok hck
      have hin3 := hin
      simp only [Bool.not_eq_false, Bool.and_eq_true] at hin
      obtain ⟨⟨i1, i2⟩, i3⟩ := hin
      have hck := Lib.hid hck
      go_enter Try.func19, Try.ntmps19
      go_wp2_with (first | (go_at_call 26; refine (rcheck_any _ _ _ _ _ (h.below (two_below w _ _))).mono ?_; rintro e w1 ⟨rfl, hb1⟩; obtain ⟨hz1, hF, hN⟩ := two_cells w _ _ hb1; obtain ⟨n1, n2, n3⟩ := cells_three hN; have g1 := cell_of_two hF) | (go_at_call 49; refine (rin_any _ _ _ _).mono ?_; rintro e w' ⟨rfl, rfl⟩))
      have hB0 := Lib.hid ((two_below w _ _).trans (hb1.mono (by simp; omega)))
      have hF := Lib.hid hF
      have hN := Lib.hid hN
      clear hb1 n1 n2 n3 g1 hin3
      obtain ⟨P, hP, hwr⟩ : ∃ P : Nat, P = 2 ^ l.length ∧ wrap64 (2 ^ l.length) = (P : Int) := ⟨_, rfl, pow_wrap h12.out⟩
      have hP4 : P ≤ 4096 := by rw [hP]; exact Nat.pow_le_pow_right (n := 2) (by omega) h12.out
      rw [← hP] at hR
      have hP' : Hid ((2 : Int) ^ l.length = (P : Int)) := by rw [hP]; unfold Hid; simp
      have hP := Lib.hid hP
      go_loopw [9, 10, 11, 12] (fun v9 v10 v11 v12 wr => ∃ (m : Nat) (A' : Option Addr) (c' : Nat), v12 = .int .i64 m ∧ m ≤ P ∧ v10 = .int .i64 (refC l n m).cost ∧ v11 = .bool (refC l n m).found ∧ v9 = .slice A' (refC l n m).choice.length c' ∧ Hid (RdInts wr A' (refC l n m).choice) ∧
        w.heap.size + 2 ≤ wr.heap.size ∧ Hid (wr.heap[w.heap.size]? = some (.cells #[.slice A l.length c, .int .i64 dry] 24 (0, 0))) ∧ Hid (wr.heap[w.heap.size + 1]? = some (.cells #[.int .i64 n.reed, .int .i64 n.straw, .int .i64 n.heather] 26 (0, 0))) ∧ Hid (Below w.heap.size w wr)) (fun _ _ _ v _ => P - (intOf v).toNat)
      case atStart => exact ⟨0, none, 0, rfl, Nat.zero_le _, rfl, rfl, rfl, ⟨by simp [refC, picks], by simp [refC, picks]⟩, hz1, hF, hN, hB0⟩
      case round =>
        obtain ⟨m, A', c', rfl, hm, rfl, rfl, rfl, hRd, hsz, hF, hN, hB⟩ := hrel
        clear hB0
        have y1 := cell_of_two hF.out
        have z0 : w.heap.size < wr.heap.size := by omega
        have hl12 := h12.out
        go_wp2
        · have hlt : m < P := by have := hP'.out; omega
          have hdt : decide ((m : Int) < 2 ^ l.length) = true := decide_eq_true (by assumption)
          rw [hdt]
          clear hdt
          obtain ⟨wo, rfl⟩ : ∃ x, x = wr := ⟨wr, rfl⟩
          go_loopw [13, 14, 15] (fun v13 v14 v15 wi => ∃ i : Nat, v15 = .int .i64 i ∧ i ≤ l.length ∧ v14 = .int .i64 (costOf l (pick i m)) ∧ Hid (SlRow wi wo.heap.size v13 (pick i m)) ∧ Hid (Below wo.heap.size wo wi)) (fun _ _ v _ => l.length - (intOf v).toNat)
          case atStart => exact ⟨0, rfl, Nat.zero_le _, rfl, World.ownsRow_nil _ _ _ _, Below.refl _ _⟩
          case round =>
            obtain ⟨i, rfl, hi, rfl, hrow, hb⟩ := hrel
            obtain ⟨Ar, cr, rfl⟩ := hrow.out.slice
            have hs2 := hb.out.size
            have y2 : wr.cell? ⟨w.heap.size, 0, none⟩ = some (.slice A l.length c) := (bcell hb.out).1 _ _ z0 |>.trans y1
            have z1 : w.heap.size < wr.heap.size := by omega
            have hco := Lib.hid (cost_bounds hok.out (pick i m))
            by_cases hil : i < l.length
            · clear hwr
              have hlen := pick_len i m
              obtain ⟨ap, hA, p0, p1, p2, p3, p4, p5, p6, p7, p8⟩ := ((h.1.below hB.out).below hb.out).at9 hil rfl
              subst hA
              have hsnoc : Hid (costOf l (pick (i + 1) m) = costOf l (pick i m) + if m.testBit i = true then l[i].cost else 0) := by
                unfold Hid
                rw [pick_succ]
                split
                · rw [costOf_snoc, plotAt, Int.toNat_natCast, getD_lt _ hil]
                · simp
              have hpk := plotOk_bounds (hok.out _ (List.getElem_mem hil))
              obtain ⟨_, _, _, _, _, _, _, _, _, _, _, k1, k2⟩ := hpk
              obtain ⟨e1, e2⟩ := hco.out
              cases hbit : m.testBit i
              · have hbt := testBit_int m i (by omega)
                rw [hbit] at hbt
                go_wp2
                refine ⟨⟨i + 1, by go_num, by omega, by rw [hsnoc.out, hbit]; simp, ?_, hb⟩, by simp only [intOf]; omega⟩
                have : pick (i + 1) m = pick i m := by rw [pick_succ, hbit]; simp
                rw [this]
                exact hrow
              · have hbt := testBit_int m i (by omega)
                rw [hbit] at hbt
                have hnew := Lib.hid (cell_one_new wr (.int .i64 i) 3)
                have hrl2 : Hid (SlRow (wr.alloc (.cells #[.int .i64 i] 3)) wo.heap.size (.slice Ar (pick i m).length cr) (pick i m)) := hrow.out.below ((Below.refl _ wr).alloc (Nat.le_refl _) _)
                have hc1 : Hid ((pick i m).length + 1 ≤ maxLen) := by unfold Hid maxLen; omega
                have hc2 : Hid (((pick i m).length + 1) * 8 ≤ 140737488355328) := by unfold Hid; omega
                have hc3 : Hid (wo.heap.size ≤ (wr.alloc (.cells #[.int .i64 i] 3)).heap.size) := by unfold Hid; simp; omega
                go_wp2_with (at_builtin; refine wp_app _ rfl _ _ 29 rfl wo.heap.size 3 1 8 Try.underlying29 info3 rfl (by decide) _ _ _ rfl (hrl2.out) ⟨wr.heap.size, 0, none⟩ 1 1 [.int .i64 i] rfl rfl hnew.out (by simp [Value.oneCell']) hc1.out hc2.out hc3.out ?_; intro v' w1 hown hgrow hnear; have hb1 : Below wo.heap.size wo w1 := (hb.out.alloc hs2 _).grown hgrow hc3.out (fun k e => (hrl2.out.lt k e).1); obtain ⟨g', cap', rfl, _, _⟩ := row_succ hown; have y3 : w1.cell? ⟨w.heap.size, 0, none⟩ = some (.slice (some ap) l.length c) := (bcell hb1).1 _ _ z0 |>.trans y1; have hs3 := hb1.size; have z3 : w.heap.size < w1.heap.size := Nat.lt_of_lt_of_le z0 hs3; obtain ⟨ap', hA', q0, q1, q2, q3, q4, q5, q6, q7, q8⟩ := ((h.1.below hB.out).below hb1).at9 hil rfl; cases hA'; have hb1 := Lib.hid hb1; have hown := Lib.hid hown)
                have hpk1 : pick (i + 1) m = pick i m ++ [(i : Int)] := by rw [pick_succ, hbit]; simp
                refine ⟨?_, by simp only [intOf]; omega⟩
                · refine ⟨i + 1, rfl, by omega, by rw [hsnoc.out, hbit]; simp, ?_, hb1⟩
                  rw [hpk1]
                  unfold SlRow Hid
                  rw [List.map_append, List.length_append]
                  exact hown.out
            · have hie : i = l.length := by omega
              subst hie
              clear hwr hil hi
              have hin2 := Lib.hid (pick_in (l := l) (m := m) (Nat.le_refl _))
              have hlen := pick_len l.length m
              have hSl := hrow.out.reads (by omega)
              obtain ⟨A2, c2, e2, hRs⟩ := hSl
              cases e2
              have hFi := Lib.hid ((hb.out.block _ z0).trans hF.out)
              have z4 : w.heap.size + 1 < wo.heap.size := by omega
              have hNi := Lib.hid ((hb.out.block _ z4).trans hN.out)
              obtain ⟨n1, n2, n3⟩ := cells_three hNi.out
              have hF2 := cells_two hFi.out
              obtain ⟨f1, f2⟩ := hF2
              have hPl := (h.below hB.out).below hb.out
              have hRi := hRd.out.below hb.out
              have hst := Lib.hid (refC_succ l n m)
              have hfin : ∀ wx, Below wr.heap.size wr wx → w.heap.size + 2 ≤ wx.heap.size ∧ Hid (wx.heap[w.heap.size]? = some (.cells #[.slice A l.length c, .int .i64 dry] 24 (0, 0))) ∧ Hid (wx.heap[w.heap.size + 1]? = some (.cells #[.int .i64 n.reed, .int .i64 n.straw, .int .i64 n.heather] 26 (0, 0))) ∧ Hid (Below w.heap.size w wx) := fun wx hx => by
                have h3 := hx.size
                have h4 : Below wo.heap.size wo wx := hb.out.trans (hx.mono hs2)
                exact ⟨by omega, (h4.block _ z0).trans hF.out, (h4.block _ z4).trans hN.out, hB.out.trans (h4.mono (by omega))⟩
              have hm1 : m + 1 ≤ P := hlt
              have hm1 := Lib.hid hm1
              have hmeas : P - (intOf (.int .i64 ((m : Int) + 1))).toNat < P - (intOf (.int .i64 (m : Int))).toNat := by simp only [intOf]; omega
              have hmeas := Lib.hid hmeas
              cases hE : enoughB l n (pick l.length m)
              · have hq : Hid (refC l n (m + 1) = refC l n m) := by
                  unfold Hid; rw [hst.out, stepC, if_neg (by rintro ⟨x1, x2⟩; rw [hE] at x1; cases x1)]
                go_wp2_with (first | (go_at_call 50; refine (enough_any _ _ _ _ l dry n (pick l.length m) _ hPl hRs hin2.out hok.out (Nat.le_trans hlen h12.out)).mono ?_; rintro e w3 ⟨rfl, hb3⟩) | (go_at_call 51; refine (ahead_any _ _ _ _ (pick l.length m) (refC l n m).choice (costOf l (pick l.length m)) (refC l n m).cost _ (hRs.below hb3) (hRi.below hb3)).mono ?_; rintro e w4 ⟨rfl, hb4⟩))
                exact ⟨⟨m + 1, A', c', rfl, hm1.out, by rw [hq.out], by rw [hq.out], by rw [hq.out], by rw [hq.out]; exact hRi.below hb3, hfin _ hb3⟩, hmeas.out⟩
              · cases hFd : (refC l n m).found
                · have hq : Hid (refC l n (m + 1) = ⟨true, costOf l (pick l.length m), pick l.length m⟩) := by
                    unfold Hid; rw [hst.out, stepC, if_pos ⟨hE, .inl hFd⟩]
                  go_wp2_with (first | (go_at_call 50; refine (enough_any _ _ _ _ l dry n (pick l.length m) _ hPl hRs hin2.out hok.out (Nat.le_trans hlen h12.out)).mono ?_; rintro e w3 ⟨rfl, hb3⟩) | (go_at_call 51; refine (ahead_any _ _ _ _ (pick l.length m) (refC l n m).choice (costOf l (pick l.length m)) (refC l n m).cost _ (hRs.below hb3) (hRi.below hb3)).mono ?_; rintro e w4 ⟨rfl, hb4⟩))
                  exact ⟨⟨m + 1, Ar, cr, rfl, hm1.out, by rw [hq.out], by rw [hq.out], by rw [hq.out], by rw [hq.out]; exact hRs.below hb3, hfin _ hb3⟩, hmeas.out⟩
                · by_cases hC : cmp3 (costOf l (pick l.length m)) (pick l.length m) (refC l n m).cost (refC l n m).choice < 0
                  · have hq : Hid (refC l n (m + 1) = ⟨true, costOf l (pick l.length m), pick l.length m⟩) := by
                      unfold Hid; rw [hst.out, stepC, if_pos ⟨hE, .inr hC⟩]
                    go_wp2_with (first | (go_at_call 50; refine (enough_any _ _ _ _ l dry n (pick l.length m) _ hPl hRs hin2.out hok.out (Nat.le_trans hlen h12.out)).mono ?_; rintro e w3 ⟨rfl, hb3⟩) | (go_at_call 51; refine (ahead_any _ _ _ _ (pick l.length m) (refC l n m).choice (costOf l (pick l.length m)) (refC l n m).cost _ (hRs.below hb3) (hRi.below hb3)).mono ?_; rintro e w4 ⟨rfl, hb4⟩))
                    have hb5 := hb3.trans (hb4.mono hb3.size)
                    exact ⟨⟨m + 1, Ar, cr, rfl, hm1.out, by rw [hq.out], by rw [hq.out], by rw [hq.out], by rw [hq.out]; exact hRs.below hb5, hfin _ hb5⟩, hmeas.out⟩
                  · have hq : Hid (refC l n (m + 1) = refC l n m) := by
                      unfold Hid; rw [hst.out, stepC, if_neg (by rintro ⟨x1, x2⟩; rw [hFd] at x2; rcases x2 with x2 | x2; exact absurd x2 (by decide); exact hC x2)]
                    go_wp2_with (first | (go_at_call 50; refine (enough_any _ _ _ _ l dry n (pick l.length m) _ hPl hRs hin2.out hok.out (Nat.le_trans hlen h12.out)).mono ?_; rintro e w3 ⟨rfl, hb3⟩) | (go_at_call 51; refine (ahead_any _ _ _ _ (pick l.length m) (refC l n m).choice (costOf l (pick l.length m)) (refC l n m).cost _ (hRs.below hb3) (hRi.below hb3)).mono ?_; rintro e w4 ⟨rfl, hb4⟩))
                    have hb5 := hb3.trans (hb4.mono hb3.size)
                    exact ⟨⟨m + 1, A', c', rfl, hm1.out, by rw [hq.out], by rw [hq.out, hFd], by rw [hq.out], by rw [hq.out]; exact hRi.below hb5, hfin _ hb5⟩, hmeas.out⟩
        · have hlt : m = P := by have := hP'.out; omega
          subst hlt
          clear hwr
          go_wp2
          refine bodyPost_ret (v := .tuple #[.slice A' (refC l n m).choice.length c', .int .i64 (refC l n m).cost, .bool (refC l n m).found, .int .i64 0]) (by simp [results, Try.results19, go_sem]) rfl ?_
          exact ⟨A', c', by rw [hR.out], by rw [hR.out]; exact hRd.out, hB.out⟩
  · have hb0 : (checkI l dry == 0) = false := by simpa using hck
    have hb0' : (checkI l dry != 0) = true := bne_iff_ne.2 hck
    have hR : Hid (chooseR l dry n = (⟨false, 0, []⟩, checkI l dry)) := if_pos hck
    have hck := Lib.hid hck
    go_enter Try.func19, Try.ntmps19
    go_wp2_with (go_at_call 26; refine (rcheck_any _ _ _ _ _ (h.below (two_below w _ _))).mono ?_; rintro e w1 ⟨rfl, hb1⟩; obtain ⟨hz1, hF, hN⟩ := two_cells w _ _ hb1; have g1 := cell_of_two hF)
    refine bodyPost_ret (v := .tuple #[.slice none 0 0, .int .i64 0, .bool false, .int .i64 (checkI l dry)]) (by simp [results, Try.results19, go_sem]) rfl ?_
    exact ⟨none, 0, by rw [hR.out]; rfl, by rw [hR.out]; exact ⟨by simp, by simp⟩, (two_below w _ _).trans (hb1.mono (by simp; omega))⟩
end Go.Proofs.Ytpgkhlpepckfgaa
end
section
namespace Go.Proofs.Ytpgkhlpepckfgaa
open Go.RowKit Go.Lib

theorem fields_sorted (n : Nat) : (fields 0 n).Pairwise (· < ·) := by
  rw [fields_range]
  exact List.pairwise_map.2 ((List.pairwise_lt_range (n := n)).imp fun h => by omega)
theorem fields_in (n : Nat) : ∀ i ∈ fields 0 n, 0 ≤ i ∧ i < (n : Int) := fun x hx => by
  simp only [fields_range, List.mem_map, List.mem_range] at hx
  obtain ⟨j, hj, rfl⟩ := hx
  omega
theorem fields_len (n : Nat) : (fields 0 n).length = n := by simp [fields]
theorem sub_in {pl : List Plot} {s : List Int} (h : s.Sublist (fields 0 pl.length)) : InFields pl s := fun i hi => fields_in _ i (h.subset hi)
theorem sub_lt {n : Nat} {s : List Int} (h : s.Sublist (fields 0 n)) {k : Nat} (hk : k + 1 < s.length) : s[k] < s[k + 1] := by
  have := (fields_sorted n).sublist h
  exact (List.pairwise_iff_getElem.1 this) k (k + 1) (by omega) hk (by omega)
theorem costOf_take (pl : List Plot) (s : List Int) (k : Nat) (h : k < s.length) : costOf pl (s.take (k + 1)) = costOf pl (s.take k) + (plotAt pl s[k]).cost := by
  rw [List.take_succ_eq_append_getElem h, costOf_snoc]

theorem wrap_zero {x : Int} (h0 : 0 ≤ x) (h1 : x ≤ 1000000) : wrap64 (0 + x) = 0 + x := by unfold wrap64; omega
set_option maxHeartbeats 4000000 in
set_option maxRecDepth 100000 in
theorem given_any (A B : Option Addr) (c cb : Nat) (pl : List Plot) (dry : Int) (n : Need) (s : List Int) (w : World) (h : RdPlots w A pl) (h2 : RdInts w B s) (hsub : s.Sublist (fields 0 pl.length)) (hok : ∀ p ∈ pl, plotOk p = true) (hs : s.length ≤ 12) :
    Calls Try.prog 21 #[.agg #[.slice A pl.length c, .int .i64 dry], .agg #[.int .i64 n.reed, .int .i64 n.straw, .int .i64 n.heather], .slice B s.length cb] w fun e w' => e = .returned (.tuple #[.int .i64 (costOf pl s), .bool (enoughB pl n s), .bool true]) ∧ Below w.heap.size w w' := by
  have hl1 := h.1.1
  have hin := sub_in hsub
  go_enter Try.func21, Try.ntmps21
  go_wp2
  go_loopw [6, 9, 10, 11, 12] (fun v6 v9 v10 v11 i wr => ∃ k : Nat, i = .int .i64 k ∧ k ≤ s.length ∧ v6 = .int .i64 (costOf pl (s.take k)) ∧ v9 = .int .i64 (-(gotN pl s k).reed) ∧ v10 = .int .i64 (-(gotN pl s k).straw) ∧ v11 = .int .i64 (-(gotN pl s k).heather) ∧ w.heap.size + 2 ≤ wr.heap.size ∧ Hid (wr.heap[w.heap.size]? = some (.cells #[.slice A pl.length c, .int .i64 dry] 24 (0, 0))) ∧ Hid (wr.heap[w.heap.size + 1]? = some (.cells #[.int .i64 n.reed, .int .i64 n.straw, .int .i64 n.heather] 26 (0, 0))) ∧ Hid (Below w.heap.size w wr)) (fun _ _ _ _ i _ => s.length - (intOf i).toNat)
  case atStart => exact ⟨0, rfl, by omega, rfl, rfl, rfl, rfl, by simp, heap_old _ _ _ _ (heap_new _ _ _ rfl), heap_new _ _ _ (by simp), ((Below.refl _ w).alloc (Nat.le_refl _) _).alloc (by simp) _⟩
  case round =>
    obtain ⟨k, rfl, hk, rfl, rfl, rfl, rfl, hsz, hF, hN, hB⟩ := hrel
    have hg := gotN_in hin hok k hk
    obtain ⟨u1, u2, u3, u4, u5, u6⟩ := hg
    have y1 := cell_of_two hF.out
    obtain ⟨n1, n2, n3⟩ := cells_three hN.out
    have z0 : w.heap.size < wr.heap.size := by omega
    have z1 : w.heap.size + 1 < wr.heap.size := by omega
    have hco := cost_bounds hok (s.take k)
    rw [List.length_take] at hco
    obtain ⟨co1, co2⟩ := hco
    by_cases hlt : k < s.length
    · obtain ⟨ad, hA, g0⟩ := (h2.below hB.out).at1 hlt rfl
      subst hA
      obtain ⟨i0, i1⟩ := hin _ (List.getElem_mem hlt)
      obtain ⟨j, hj⟩ : ∃ j : Nat, s[k] = (j : Int) := ⟨s[k].toNat, by omega⟩
      have hjl : j < pl.length := by omega
      obtain ⟨ap, hAp, p0, p1, p2, p3, p4, p5, p6, p7, p8⟩ := (h.1.below hB.out).at9 hjl rfl
      subst hAp
      have hpk := hok _ (List.getElem_mem hjl)
      obtain ⟨k1, k2, k3, k4, k5, k6, _, _, _, _, _, kc1, kc2⟩ := plotOk_bounds hpk
      obtain ⟨kk1, kk2⟩ := prod_bounds k2 k3 k4 (by omega)
      have hpa : plotAt pl (j : Int) = pl[j] := by unfold plotAt; rw [Int.toNat_natCast, getD_lt _ hjl]
      have hstep := gotN_succ pl s k hlt
      rw [subAt, hj, hpa] at hstep
      have hcost := costOf_take pl s k hlt
      rw [hj, hpa] at hcost
      have hstep := Lib.hid hstep
      have hcost := Lib.hid hcost
      rw [hj] at g0
      simp only [cropB, Bool.and_eq_true, decide_eq_true_eq] at k1
      have hcr : pl[j].crop = 1 ∨ pl[j].crop = 2 ∨ pl[j].crop = 3 := by omega
      clear k1
      have hprev : k = 0 ∨ ∃ k' j' : Nat, k = k' + 1 ∧ j' < j ∧ wr.cell? (ad.add k') = some (.int .i64 j') := by
        cases k with
        | zero => exact .inl rfl
        | succ k' =>
          have hlt' : k' < s.length := by omega
          obtain ⟨ad2, hA2, g2⟩ := (h2.below hB.out).at1 hlt' rfl
          cases hA2
          obtain ⟨i0', i1'⟩ := hin _ (List.getElem_mem hlt')
          have hlt2 := sub_lt hsub hlt
          refine .inr ⟨k', s[k'].toNat, rfl, by omega, ?_⟩
          rw [g2, Int.toNat_of_nonneg i0']
      have hj := Lib.hid hj
      have cb1 : decide ((j : Int) < 0) = false := decide_eq_false (by omega)
      have cb2 : decide ((pl.length : Int) ≤ (j : Int)) = false := decide_eq_false (by omega)
      have cb2' : decide (pl.length ≤ j) = false := decide_eq_false (by omega)
      rcases hprev with rfl | ⟨k', j', rfl, hjj, gp⟩
      · have ga : ad.add 0 = ad := by simp [Addr.add]
        rw [ga] at g0
        have cb3 : decide ((0 : Int) < ((0 : Nat) : Int)) = false := rfl
        rcases hcr with hcr | hcr | hcr <;> have hcr' := hcr
        · go_wp2
          go_big_quiet (fail)
          obtain ⟨wx, hwx⟩ : ∃ x, x = wr.drewN nq := ⟨_, rfl⟩
          have hBx : Below wr.heap.size wr wx := hwx ▸ below_drewN_ wr nq
          have hBy : Below wr.heap.size wr (wx.alloc (.cells #[.string ⟨#[]⟩, .int .i64 0, .int .i64 0, .int .i64 0, .int .i64 0, .int .i64 0, .int .i64 0, .int .i64 0, .int .i64 0] 88)) := hBx.alloc hBx.size _
          rw [← hwx]
          clear p0 p1 p2 p3 p4 p5 p6 p7 p8 g0 y1 n1 n2 n3
          obtain ⟨ad1, hA1, g1⟩ := ((h2.below hB.out).below hBx).at1 hlt rfl
          cases hA1
          obtain ⟨ad2, hA2, g2⟩ := ((h2.below hB.out).below hBy).at1 hlt rfl
          cases hA2
          rw [hj.out, ga] at g1 g2
          obtain ⟨ap1, hAp1, p0, p1, p2, p3, p4, p5, p6, p7, p8⟩ := ((h.1.below hB.out).below hBx).at9 hjl rfl
          cases hAp1
          obtain ⟨ap2, hAp2, p0', p1', p2', p3', p4', p5', p6', p7', p8'⟩ := ((h.1.below hB.out).below hBy).at9 hjl rfl
          cases hAp2
          have y1 := cell_of_two ((hBx.block _ z0).trans hF.out)
          have y2 := cell_of_two ((hBy.block _ z0).trans hF.out)
          have hBx := Lib.hid hBx
          clear hBy hwx
          go_wp2
          go_region
          go_wp2
          have hY : ∀ o : Obj, Below wr.heap.size wr (wx.alloc o) := fun o => hBx.out.alloc hBx.out.size o
          have hYs := hBx.out.size
          exact ⟨⟨1, by go_num, by omega, by rw [hcost.out]; exact congrArg _ (wrap_zero kc1 kc2), by rw [hstep.out]; simp [needSub, hcr', Int.sub_eq_add_neg, Int.neg_add], by rw [hstep.out]; simp [needSub, hcr', Int.sub_eq_add_neg, Int.neg_add], by rw [hstep.out]; simp [needSub, hcr', Int.sub_eq_add_neg, Int.neg_add], by show _ ≤ (wx.alloc _).heap.size; rw [World.size_alloc]; omega, ((hY _).block _ z0).trans hF.out, ((hY _).block _ z1).trans hN.out, (hB.out.trans ((hY _).mono (by omega))).drew⟩, by simp only [intOf]; omega⟩
        · go_wp2
          go_big_quiet (fail)
          obtain ⟨wx, hwx⟩ : ∃ x, x = wr.drewN nq := ⟨_, rfl⟩
          have hBx : Below wr.heap.size wr wx := hwx ▸ below_drewN_ wr nq
          have hBy : Below wr.heap.size wr (wx.alloc (.cells #[.string ⟨#[]⟩, .int .i64 0, .int .i64 0, .int .i64 0, .int .i64 0, .int .i64 0, .int .i64 0, .int .i64 0, .int .i64 0] 88)) := hBx.alloc hBx.size _
          rw [← hwx]
          clear p0 p1 p2 p3 p4 p5 p6 p7 p8 g0 y1 n1 n2 n3
          obtain ⟨ad1, hA1, g1⟩ := ((h2.below hB.out).below hBx).at1 hlt rfl
          cases hA1
          obtain ⟨ad2, hA2, g2⟩ := ((h2.below hB.out).below hBy).at1 hlt rfl
          cases hA2
          rw [hj.out, ga] at g1 g2
          obtain ⟨ap1, hAp1, p0, p1, p2, p3, p4, p5, p6, p7, p8⟩ := ((h.1.below hB.out).below hBx).at9 hjl rfl
          cases hAp1
          obtain ⟨ap2, hAp2, p0', p1', p2', p3', p4', p5', p6', p7', p8'⟩ := ((h.1.below hB.out).below hBy).at9 hjl rfl
          cases hAp2
          have y1 := cell_of_two ((hBx.block _ z0).trans hF.out)
          have y2 := cell_of_two ((hBy.block _ z0).trans hF.out)
          have hBx := Lib.hid hBx
          clear hBy hwx
          go_wp2
          go_region
          go_wp2
          have hY : ∀ o : Obj, Below wr.heap.size wr (wx.alloc o) := fun o => hBx.out.alloc hBx.out.size o
          have hYs := hBx.out.size
          exact ⟨⟨1, by go_num, by omega, by rw [hcost.out]; exact congrArg _ (wrap_zero kc1 kc2), by rw [hstep.out]; simp [needSub, hcr', Int.sub_eq_add_neg, Int.neg_add], by rw [hstep.out]; simp [needSub, hcr', Int.sub_eq_add_neg, Int.neg_add], by rw [hstep.out]; simp [needSub, hcr', Int.sub_eq_add_neg, Int.neg_add], by show _ ≤ (wx.alloc _).heap.size; rw [World.size_alloc]; omega, ((hY _).block _ z0).trans hF.out, ((hY _).block _ z1).trans hN.out, (hB.out.trans ((hY _).mono (by omega))).drew⟩, by simp only [intOf]; omega⟩
        · go_wp2
          go_big_quiet (fail)
          obtain ⟨wx, hwx⟩ : ∃ x, x = wr.drewN nq := ⟨_, rfl⟩
          have hBx : Below wr.heap.size wr wx := hwx ▸ below_drewN_ wr nq
          have hBy : Below wr.heap.size wr (wx.alloc (.cells #[.string ⟨#[]⟩, .int .i64 0, .int .i64 0, .int .i64 0, .int .i64 0, .int .i64 0, .int .i64 0, .int .i64 0, .int .i64 0] 88)) := hBx.alloc hBx.size _
          rw [← hwx]
          clear p0 p1 p2 p3 p4 p5 p6 p7 p8 g0 y1 n1 n2 n3
          obtain ⟨ad1, hA1, g1⟩ := ((h2.below hB.out).below hBx).at1 hlt rfl
          cases hA1
          obtain ⟨ad2, hA2, g2⟩ := ((h2.below hB.out).below hBy).at1 hlt rfl
          cases hA2
          rw [hj.out, ga] at g1 g2
          obtain ⟨ap1, hAp1, p0, p1, p2, p3, p4, p5, p6, p7, p8⟩ := ((h.1.below hB.out).below hBx).at9 hjl rfl
          cases hAp1
          obtain ⟨ap2, hAp2, p0', p1', p2', p3', p4', p5', p6', p7', p8'⟩ := ((h.1.below hB.out).below hBy).at9 hjl rfl
          cases hAp2
          have y1 := cell_of_two ((hBx.block _ z0).trans hF.out)
          have y2 := cell_of_two ((hBy.block _ z0).trans hF.out)
          have hBx := Lib.hid hBx
          clear hBy hwx
          go_wp2
          go_region
          go_wp2
          have hY : ∀ o : Obj, Below wr.heap.size wr (wx.alloc o) := fun o => hBx.out.alloc hBx.out.size o
          have hYs := hBx.out.size
          exact ⟨⟨1, by go_num, by omega, by rw [hcost.out]; exact congrArg _ (wrap_zero kc1 kc2), by rw [hstep.out]; simp [needSub, hcr', Int.sub_eq_add_neg, Int.neg_add], by rw [hstep.out]; simp [needSub, hcr', Int.sub_eq_add_neg, Int.neg_add], by rw [hstep.out]; simp [needSub, hcr', Int.sub_eq_add_neg, Int.neg_add], by show _ ≤ (wx.alloc _).heap.size; rw [World.size_alloc]; omega, ((hY _).block _ z0).trans hF.out, ((hY _).block _ z1).trans hN.out, (hB.out.trans ((hY _).mono (by omega))).drew⟩, by simp only [intOf]; omega⟩
      · have ga : ad.add (k' + 1) = ⟨ad.block, ad.off + (k' + 1), none⟩ := by simp [Addr.add]
        rw [ga] at g0
        have cb3 : decide ((0 : Int) < ((k' + 1 : Nat) : Int)) = true := decide_eq_true (by omega)
        have cb3' : decide ((0 : Int) < ((k' : Nat) : Int) + 1) = true := decide_eq_true (by omega)
        have cb4 : decide ((j : Int) ≤ (j' : Int)) = false := decide_eq_false (by omega)
        have cb4' : decide (j ≤ j') = false := decide_eq_false (by omega)
        rcases hcr with hcr | hcr | hcr <;> have hcr' := hcr
        · go_wp2
          go_big_quiet (fail)
          obtain ⟨wx, hwx⟩ : ∃ x, x = wr.drewN nq := ⟨_, rfl⟩
          have hBx : Below wr.heap.size wr wx := hwx ▸ below_drewN_ wr nq
          have hBy : Below wr.heap.size wr (wx.alloc (.cells #[.string ⟨#[]⟩, .int .i64 0, .int .i64 0, .int .i64 0, .int .i64 0, .int .i64 0, .int .i64 0, .int .i64 0, .int .i64 0] 88)) := hBx.alloc hBx.size _
          rw [← hwx]
          clear p0 p1 p2 p3 p4 p5 p6 p7 p8 g0 y1 n1 n2 n3
          obtain ⟨ad1, hA1, g1⟩ := ((h2.below hB.out).below hBx).at1 hlt rfl
          cases hA1
          obtain ⟨ad2, hA2, g2⟩ := ((h2.below hB.out).below hBy).at1 hlt rfl
          cases hA2
          rw [hj.out, ga] at g1 g2
          obtain ⟨ap1, hAp1, p0, p1, p2, p3, p4, p5, p6, p7, p8⟩ := ((h.1.below hB.out).below hBx).at9 hjl rfl
          cases hAp1
          obtain ⟨ap2, hAp2, p0', p1', p2', p3', p4', p5', p6', p7', p8'⟩ := ((h.1.below hB.out).below hBy).at9 hjl rfl
          cases hAp2
          have y1 := cell_of_two ((hBx.block _ z0).trans hF.out)
          have y2 := cell_of_two ((hBy.block _ z0).trans hF.out)
          have hBx := Lib.hid hBx
          clear hBy hwx
          go_wp2
          go_region
          go_wp2
          have hY : ∀ o : Obj, Below wr.heap.size wr (wx.alloc o) := fun o => hBx.out.alloc hBx.out.size o
          have hYs := hBx.out.size
          exact ⟨⟨k' + 1 + 1, by go_num, by omega, by rw [hcost.out], by rw [hstep.out]; simp [needSub, hcr', Int.sub_eq_add_neg, Int.neg_add], by rw [hstep.out]; simp [needSub, hcr', Int.sub_eq_add_neg, Int.neg_add], by rw [hstep.out]; simp [needSub, hcr', Int.sub_eq_add_neg, Int.neg_add], by show _ ≤ (wx.alloc _).heap.size; rw [World.size_alloc]; omega, ((hY _).block _ z0).trans hF.out, ((hY _).block _ z1).trans hN.out, (hB.out.trans ((hY _).mono (by omega))).drew⟩, by simp only [intOf]; omega⟩
        · go_wp2
          go_big_quiet (fail)
          obtain ⟨wx, hwx⟩ : ∃ x, x = wr.drewN nq := ⟨_, rfl⟩
          have hBx : Below wr.heap.size wr wx := hwx ▸ below_drewN_ wr nq
          have hBy : Below wr.heap.size wr (wx.alloc (.cells #[.string ⟨#[]⟩, .int .i64 0, .int .i64 0, .int .i64 0, .int .i64 0, .int .i64 0, .int .i64 0, .int .i64 0, .int .i64 0] 88)) := hBx.alloc hBx.size _
          rw [← hwx]
          clear p0 p1 p2 p3 p4 p5 p6 p7 p8 g0 y1 n1 n2 n3
          obtain ⟨ad1, hA1, g1⟩ := ((h2.below hB.out).below hBx).at1 hlt rfl
          cases hA1
          obtain ⟨ad2, hA2, g2⟩ := ((h2.below hB.out).below hBy).at1 hlt rfl
          cases hA2
          rw [hj.out, ga] at g1 g2
          obtain ⟨ap1, hAp1, p0, p1, p2, p3, p4, p5, p6, p7, p8⟩ := ((h.1.below hB.out).below hBx).at9 hjl rfl
          cases hAp1
          obtain ⟨ap2, hAp2, p0', p1', p2', p3', p4', p5', p6', p7', p8'⟩ := ((h.1.below hB.out).below hBy).at9 hjl rfl
          cases hAp2
          have y1 := cell_of_two ((hBx.block _ z0).trans hF.out)
          have y2 := cell_of_two ((hBy.block _ z0).trans hF.out)
          have hBx := Lib.hid hBx
          clear hBy hwx
          go_wp2
          go_region
          go_wp2
          have hY : ∀ o : Obj, Below wr.heap.size wr (wx.alloc o) := fun o => hBx.out.alloc hBx.out.size o
          have hYs := hBx.out.size
          exact ⟨⟨k' + 1 + 1, by go_num, by omega, by rw [hcost.out], by rw [hstep.out]; simp [needSub, hcr', Int.sub_eq_add_neg, Int.neg_add], by rw [hstep.out]; simp [needSub, hcr', Int.sub_eq_add_neg, Int.neg_add], by rw [hstep.out]; simp [needSub, hcr', Int.sub_eq_add_neg, Int.neg_add], by show _ ≤ (wx.alloc _).heap.size; rw [World.size_alloc]; omega, ((hY _).block _ z0).trans hF.out, ((hY _).block _ z1).trans hN.out, (hB.out.trans ((hY _).mono (by omega))).drew⟩, by simp only [intOf]; omega⟩
        · go_wp2
          go_big_quiet (fail)
          obtain ⟨wx, hwx⟩ : ∃ x, x = wr.drewN nq := ⟨_, rfl⟩
          have hBx : Below wr.heap.size wr wx := hwx ▸ below_drewN_ wr nq
          have hBy : Below wr.heap.size wr (wx.alloc (.cells #[.string ⟨#[]⟩, .int .i64 0, .int .i64 0, .int .i64 0, .int .i64 0, .int .i64 0, .int .i64 0, .int .i64 0, .int .i64 0] 88)) := hBx.alloc hBx.size _
          rw [← hwx]
          clear p0 p1 p2 p3 p4 p5 p6 p7 p8 g0 y1 n1 n2 n3
          obtain ⟨ad1, hA1, g1⟩ := ((h2.below hB.out).below hBx).at1 hlt rfl
          cases hA1
          obtain ⟨ad2, hA2, g2⟩ := ((h2.below hB.out).below hBy).at1 hlt rfl
          cases hA2
          rw [hj.out, ga] at g1 g2
          obtain ⟨ap1, hAp1, p0, p1, p2, p3, p4, p5, p6, p7, p8⟩ := ((h.1.below hB.out).below hBx).at9 hjl rfl
          cases hAp1
          obtain ⟨ap2, hAp2, p0', p1', p2', p3', p4', p5', p6', p7', p8'⟩ := ((h.1.below hB.out).below hBy).at9 hjl rfl
          cases hAp2
          have y1 := cell_of_two ((hBx.block _ z0).trans hF.out)
          have y2 := cell_of_two ((hBy.block _ z0).trans hF.out)
          have hBx := Lib.hid hBx
          clear hBy hwx
          go_wp2
          go_region
          go_wp2
          have hY : ∀ o : Obj, Below wr.heap.size wr (wx.alloc o) := fun o => hBx.out.alloc hBx.out.size o
          have hYs := hBx.out.size
          exact ⟨⟨k' + 1 + 1, by go_num, by omega, by rw [hcost.out], by rw [hstep.out]; simp [needSub, hcr', Int.sub_eq_add_neg, Int.neg_add], by rw [hstep.out]; simp [needSub, hcr', Int.sub_eq_add_neg, Int.neg_add], by rw [hstep.out]; simp [needSub, hcr', Int.sub_eq_add_neg, Int.neg_add], by show _ ≤ (wx.alloc _).heap.size; rw [World.size_alloc]; omega, ((hY _).block _ z0).trans hF.out, ((hY _).block _ z1).trans hN.out, (hB.out.trans ((hY _).mono (by omega))).drew⟩, by simp only [intOf]; omega⟩
    · have hke : k = s.length := by omega
      subst hke
      have hfull : costOf pl (s.take s.length) = costOf pl s := by rw [List.take_length]
      have hres := enough_got pl n s
      have hfin : ∀ b : Bool, b = enoughB pl n s → (Ending.returned (.tuple #[.int .i64 (costOf pl (s.take s.length)), .bool b, .bool true])) = .returned (.tuple #[.int .i64 (costOf pl s), .bool (enoughB pl n s), .bool true]) := fun b hb => by rw [hfull, hb]
      have hres := Lib.hid hres
      have hfin := Lib.hid hfin
      clear hk hfull
      by_cases d1 : n.reed ≤ -(gotN pl s s.length).reed
      · by_cases d2 : n.straw ≤ -(gotN pl s s.length).straw
        · go_wp2
          go_big_quiet (fail)
          go_wp2
          refine bodyPost_ret (v := .tuple #[.int .i64 (costOf pl (s.take s.length)), .bool (decide (n.heather ≤ -(gotN pl s s.length).heather)), .bool true]) (by simp [results, Try.results21, go_sem]) rfl ⟨hfin.out _ (by rw [hres.out]; simp [d1, d2]), hB.out.trans (below_drewN_ wr nq)⟩
        · have cd2 : decide (n.straw ≤ -(gotN pl s s.length).straw) = false := decide_eq_false d2
          go_wp2
          go_big_quiet (fail)
          go_wp2
          refine bodyPost_ret (v := .tuple #[.int .i64 (costOf pl (s.take s.length)), .bool false, .bool true]) (by simp [results, Try.results21, go_sem]) rfl ⟨hfin.out _ (by rw [hres.out, cd2]; simp only [Bool.and_false, Bool.false_and]), hB.out.trans (below_drewN_ wr nq)⟩
      · have cd1 : decide (n.reed ≤ -(gotN pl s s.length).reed) = false := decide_eq_false d1
        go_wp2
        go_big_quiet (fail)
        go_wp2
        refine bodyPost_ret (v := .tuple #[.int .i64 (costOf pl (s.take s.length)), .bool false, .bool true]) (by simp [results, Try.results21, go_sem]) rfl ⟨hfin.out _ (by rw [hres.out, cd1]; simp only [Bool.and_false, Bool.false_and]), hB.out.trans (below_drewN_ wr nq)⟩
end Go.Proofs.Ytpgkhlpepckfgaa
end
section
namespace Go.Proofs.Ytpgkhlpepckfgaa
open Go.RowKit Go.Lib

theorem needAfter_parts (pl : List Plot) (n : Need) (s : List Int) : (needAfter pl n s).reed = n.reed + (needAfter pl ⟨0, 0, 0⟩ s).reed ∧ (needAfter pl n s).straw = n.straw + (needAfter pl ⟨0, 0, 0⟩ s).straw ∧ (needAfter pl n s).heather = n.heather + (needAfter pl ⟨0, 0, 0⟩ s).heather := by
  have h := needAfter_shift pl n s ⟨0, 0, 0⟩
  simp only [Int.add_zero] at h
  have h' : needAfter pl n s = ⟨n.reed + (needAfter pl ⟨0, 0, 0⟩ s).reed, n.straw + (needAfter pl ⟨0, 0, 0⟩ s).straw, n.heather + (needAfter pl ⟨0, 0, 0⟩ s).heather⟩ := h
  rw [h']
  exact ⟨rfl, rfl, rfl⟩

def NeedLe (a b : Need) : Prop := a.reed ≤ b.reed ∧ a.straw ≤ b.straw ∧ a.heather ≤ b.heather
theorem needAfter_mono {pl : List Plot} {a b : Need} (h : NeedLe a b) (s : List Int) : NeedLe (needAfter pl a s) (needAfter pl b s) := by
  obtain ⟨a1, a2, a3⟩ := needAfter_parts pl a s
  obtain ⟨b1, b2, b3⟩ := needAfter_parts pl b s
  obtain ⟨h1, h2, h3⟩ := h
  exact ⟨by omega, by omega, by omega⟩
theorem subAt_le {pl : List Plot} (hok : ∀ p ∈ pl, plotOk p = true) (n : Need) {i : Int} (h0 : 0 ≤ i) (h1 : i < (pl.length : Int)) : NeedLe (subAt pl n i) n := by
  obtain ⟨_, k2, k3, k4, k5, k6, _⟩ := plotOk_bounds (plotAt_ok hok h0 h1)
  have hm := (prod_bounds k2 k3 k4 (by omega)).1
  unfold subAt needSub NeedLe
  split <;> (try split) <;> simp <;> omega
theorem needAfter_sub {pl : List Plot} (hok : ∀ p ∈ pl, plotOk p = true) : ∀ {s t : List Int}, s.Sublist t → InFields pl t → ∀ n, NeedLe (needAfter pl n t) (needAfter pl n s) := by
  intro s t h
  induction h with
  | slnil => intro _ n; exact ⟨Int.le_refl _, Int.le_refl _, Int.le_refl _⟩
  | @cons l1 l2 a _ ih =>
    intro hin n
    obtain ⟨h0, h1⟩ := hin a (by simp)
    obtain ⟨x1, x2, x3⟩ := ih (fun i hi => hin i (by simp [hi])) (subAt pl n a)
    obtain ⟨y1, y2, y3⟩ := needAfter_mono (pl := pl) (subAt_le hok n h0 h1) l1
    simp only [needAfter, List.foldl_cons] at *
    exact ⟨by omega, by omega, by omega⟩
  | cons_cons a _ ih =>
    intro hin n
    have := ih (fun i hi => hin i (by simp [hi])) (subAt pl n a)
    simpa [needAfter] using this
theorem needMax_le {a : Need} : needMax a ≤ 0 ↔ a.reed ≤ 0 ∧ a.straw ≤ 0 ∧ a.heather ≤ 0 := by
  unfold needMax
  constructor
  · intro h; split at h <;> split at h <;> omega
  · intro h; split <;> split <;> omega
theorem enough_of_le {pl : List Plot} {n m : Need} {s t : List Int} (h : NeedLe (needAfter pl m t) (needAfter pl n s)) (he : enoughB pl n s = true) : enoughB pl m t = true := by
  unfold enoughB at he ⊢
  rw [decide_eq_true_eq, needMax_le] at he ⊢
  obtain ⟨h1, h2, h3⟩ := h
  omega
theorem cmp3_of_lt {c d : Int} {s t : List Int} (h : c < d) : cmp3 c s d t < 0 := by
  rw [cmp3, orL3]
  have := compareInt_neg.2 h
  rw [if_neg (by omega)]
  exact this

theorem mem_picks {n : Nat} {s : List Int} (h : s.Sublist (fields 0 n)) : s ∈ picks n (2 ^ n) := by
  obtain ⟨set, h1, h2⟩ := pick_all n s h
  exact List.mem_map.2 ⟨set, List.mem_range.2 h1, h2⟩
theorem picks_sub {n m : Nat} {s : List Int} (h : s ∈ picks n m) : s.Sublist (fields 0 n) := by
  obtain ⟨set, _, rfl⟩ := List.mem_map.1 h
  exact pick_sublist n set
theorem best_is (pl : List Plot) (n : Need) : IsBest pl n (picks pl.length (2 ^ pl.length)) (walkP pl 0 0 n [] ⟨false, 0, []⟩) := by
  rw [choose_one]
  have := isBest_fold (pl := pl) (n := n) (picks pl.length (2 ^ pl.length)) (isBest_nil pl n)
  simpa [refC] using this

/-- What the law asks of the best choice. -/
structure LeastOk (pl : List Plot) (n : Need) (b : Best) : Prop where
  whole : b.found = enoughB pl n (fields 0 pl.length)
  none : b.found = false → b.choice = [] ∧ b.cost = 0
  sub : b.choice.Sublist (fields 0 pl.length)
  enough : b.found = true → enoughB pl n b.choice = true
  cost : b.cost = costOf pl b.choice
  least : b.found = true → ∀ s : List Int, s.Sublist (fields 0 pl.length) → enoughB pl n s = true → b.cost ≤ costOf pl s
theorem least_ok {pl : List Plot} (n : Need) (hok : ∀ p ∈ pl, plotOk p = true) : LeastOk pl n (walkP pl 0 0 n [] ⟨false, 0, []⟩) := by
  have h := best_is pl n
  generalize walkP pl 0 0 n [] ⟨false, 0, []⟩ = b at *
  cases hf : b.found with
  | false =>
    obtain ⟨e, h1⟩ := h.1 hf
    subst e
    exact ⟨(h1 _ (mem_picks (List.Sublist.refl _))).symm, fun _ => ⟨rfl, rfl⟩, List.nil_sublist _, fun e => (by cases e), rfl, fun e => (by cases e)⟩
  | true =>
    obtain ⟨a1, a2, a3, a4⟩ := h.2 hf
    have hs := picks_sub a1
    refine ⟨?_, fun e => (by rw [hf] at e; cases e), hs, fun _ => a2, a3, fun _ s h1 h2 => ?_⟩
    · rw [hf]
      exact (enough_of_le (needAfter_sub hok hs (fun i hi => fields_in _ i hi) n) a2).symm
    · have := a4 s (mem_picks h1) h2
      by_cases hlt : costOf pl s < b.cost
      · exact absurd (cmp3_of_lt hlt) this
      · omega
/-- With lesser needs no choice costs more. -/
theorem least_less {pl : List Plot} {n m : Need} (hle : NeedLe m n) (hok : ∀ p ∈ pl, plotOk p = true) (hf : (walkP pl 0 0 n [] ⟨false, 0, []⟩).found = true) : (walkP pl 0 0 m [] ⟨false, 0, []⟩).found = true ∧ (walkP pl 0 0 m [] ⟨false, 0, []⟩).cost ≤ (walkP pl 0 0 n [] ⟨false, 0, []⟩).cost := by
  have h := least_ok n hok
  have g := least_ok m hok
  have he := enough_of_le (needAfter_mono hle (walkP pl 0 0 n [] ⟨false, 0, []⟩).choice) (h.enough hf)
  have hw : (walkP pl 0 0 m [] ⟨false, 0, []⟩).found = true := by
    rw [g.whole]
    exact enough_of_le (needAfter_sub hok h.sub (fun i hi => fields_in _ i hi) m) he
  refine ⟨hw, ?_⟩
  rw [h.cost]
  exact g.least hw _ h.sub he
end Go.Proofs.Ytpgkhlpepckfgaa
end
