/-
  The first store of a farm: straw.New, walked, told with where its lists lie (printed from SNew by mksnewf.py). A farm with its fields in another order: what chores do is the same. No program is walked here. A farm with its fields in another order: what fields cost, and the best choice. No program is walked here. An argument that came in, opened: a row of chores, with their fields' numbers as a machine's. What the law StrawSwapped has laid: the farm, the need, the farm in the other order, and the chores on it.
-/
import Derived.Test.YtpgkhlpepckfgaaXa20
import Derived.Test.YtpgkhlpepckfgaaXa23
import Derived.Test.YtpgkhlpepckfgaaXa32
import Derived.Test.YtpgkhlpepckfgaaXh02
import Derived.Test.YtpgkhlpepckfgaaXm00
import Derived.Test.YtpgkhlpepckfgaaXs00
import Derived.Test.YtpgkhlpepckfgaaXs02
import Derived.Test.YtpgkhlpepckfgaaXs03
set_option linter.all false
set_option linter.unusedVariables false
set_option linter.unusedSimpArgs false
section
namespace Go.Proofs.Ytpgkhlpepckfgaa
open Go.RowKit Go.Lib

/-- The first store, and that its lists lie in new blocks. -/
def NewOutF (pl : List Plot) (dry : Int) (w : World) (e : Ending) (w' : World) : Prop := ∃ t : Store, e = .returned (.tuple #[storeVal t, .int .i64 (checkI pl dry)]) ∧ RdStore w' t ∧ SameS (newS pl dry) t ∧ Below w.heap.size w w' ∧ FreshS w.heap.size t
theorem new_closeF {pl : List Plot} {dry : Int} {w Wf : World} {X G : Nat} {act : Act} (F : NewFin w pl.length Wf X G) (hX : w.heap.size ≤ X) (hG : w.heap.size ≤ G) (hck : checkI pl dry = 0) (hlen : pl.length ≤ 1000000) (h2 : act.tmps.getD 2 undef = .pointer (some ⟨w.heap.size + 1, 0, none⟩)) (h3 : act.tmps.getD 3 undef = .int .i64 0) (hd : act.defers = []) :
    bodyPost Try.prog Try.f23 (NewOutF pl dry w) Exit.ret act Wf := by
  have h2' : act.tmps[2]?.getD undef = .pointer (some ⟨w.heap.size + 1, 0, none⟩) := by rw [← h2]; simp
  have h3' : act.tmps[3]?.getD undef = .int .i64 0 := by rw [← h3]; simp
  obtain ⟨c0, c1, c2, c3, c4, c5⟩ : Wf.cell? ⟨w.heap.size + 1, 0, none⟩ = some (.int .i64 0) ∧ Wf.cell? ⟨w.heap.size + 1, 1, none⟩ = some (.slice (some ⟨X, 0, none⟩) pl.length pl.length) ∧ Wf.cell? ⟨w.heap.size + 1, 2, none⟩ = some (.slice (some ⟨G, 0, none⟩) pl.length pl.length) ∧ Wf.cell? ⟨w.heap.size + 1, 3, none⟩ = some (.slice none 0 0) ∧ Wf.cell? ⟨w.heap.size + 1, 4, none⟩ = some (.slice none 0 0) ∧ Wf.cell? ⟨w.heap.size + 1, 5, none⟩ = some (.slice none 0 0) := by
    refine ⟨?_, ?_, ?_, ?_, ?_, ?_⟩ <;> simp [World.cell?, F.out]
  refine bodyPost_ret (v := .tuple #[.agg (sixNew pl.length X G), .int .i64 0]) (by simp [results, Try.results23, go_sem, h2', h3', c0, c1, c2, c3, c4, c5]) hd ?_
  refine ⟨⟨0, List.replicate pl.length (-1), List.replicate pl.length 0, [], [], [], some ⟨X, 0, none⟩, pl.length, some ⟨G, 0, none⟩, pl.length, none, 0, none, 0, none, 0⟩, ?_, ?_, ?_, F.below, ?_⟩
  · rw [hck]; simp [storeVal, storeCells]
  · exact ⟨rep_reads F.last hlen, cnt_reads F.given hlen, ⟨⟨by simp, by simp⟩, by simp⟩, ⟨by simp, by simp⟩, ⟨by simp, by simp⟩⟩
  · unfold newS; rw [if_pos hck]; exact ⟨rfl, rfl, rfl, rfl, rfl, rfl, fun i h1 _ => absurd h1 (Nat.not_lt_zero _)⟩
  · intro k e
    rcases e with e | e | e
    · cases e; exact hX
    · cases e; exact hG
    · cases e
set_option maxHeartbeats 2000000 in
set_option maxRecDepth 100000 in
theorem new_okayF (A : Option Addr) (c : Nat) (pl : List Plot) (dry : Int) (w : World) (h : RdPlots w A pl) (hck : 0 = checkI pl dry) :
    Calls Try.prog 23 #[.agg #[.slice A pl.length c, .int .i64 dry]] w (NewOutF pl dry w) := by
  have hl1 := h.1.1
  · have hlen : pl.length ≤ 1000000 := by have := (checkI_zero hck.symm).1; omega
    have hmk := make_cnt pl.length hlen
    have hca : ∀ W, RdPlots W A pl → Calls Try.prog 25 #[.agg #[.slice A pl.length c, .int .i64 dry]] W fun e w' => e = .returned (.int .i64 0) ∧ Below W.heap.size W w' := fun W hW => hck ▸ check_any A c pl dry W hW
    replace hca := Lib.hid hca
    replace hck := Lib.hid hck.symm
    go_enter Try.func23, Try.ntmps23
    go_wp2_with (go_at_call 25; refine (hca.out _ (h.below (((Below.refl _ w).alloc (Nat.le_refl _) _).alloc (by simp) _))).mono ?_; rintro e w1 ⟨rfl, hb1⟩; obtain ⟨r1, s1⟩ := bcell hb1)
    obtain ⟨B1, hB1⟩ : ∃ B1, B1 = w1.heap.size := ⟨_, rfl⟩
    have z1 : w.heap.size + 1 < w1.heap.size := by have := hb1.size; simp at this; omega
    have z0 : w.heap.size < w1.heap.size := by omega
    have d0 : w1.cell? ⟨w.heap.size, 0, none⟩ = some (.slice A pl.length c) := by go_simp
    have hblk : w1.heap[w.heap.size + 1]? = some (.cells #[.int .i64 0, .slice none 0 0, .slice none 0 0, .slice none 0 0, .slice none 0 0, .slice none 0 0] 43 (0, 0)) := (hb1.block _ (by simp)).trans (heap_new _ _ _ (by simp))
    obtain ⟨e0, e1, e2, e3, e4, e5⟩ : w1.cell? ⟨w.heap.size + 1, 0, none⟩ = some (.int .i64 0) ∧ w1.cell? ⟨w.heap.size + 1, 1, none⟩ = some (.slice none 0 0) ∧ w1.cell? ⟨w.heap.size + 1, 2, none⟩ = some (.slice none 0 0) ∧ w1.cell? ⟨w.heap.size + 1, 3, none⟩ = some (.slice none 0 0) ∧ w1.cell? ⟨w.heap.size + 1, 4, none⟩ = some (.slice none 0 0) ∧ w1.cell? ⟨w.heap.size + 1, 5, none⟩ = some (.slice none 0 0) := by
      refine ⟨?_, ?_, ?_, ?_, ?_, ?_⟩ <;> simp [World.cell?, hblk]
    have fz : ∀ o, w1.frozen? ⟨w.heap.size + 1, o, none⟩ = false := fun o => frozen_four hblk o
    replace hblk := Lib.hid hblk
    replace hB1 := Lib.hid hB1
    clear r1 s1
    have hBw := Lib.hid ((((Below.refl _ w).alloc (Nat.le_refl _) (.cells #[.slice A pl.length c, .int .i64 dry] 24)).alloc (by simp) (.cells #[.int .i64 0, .slice none 0 0, .slice none 0 0, .slice none 0 0, .slice none 0 0, .slice none 0 0] 43)).trans (hb1.mono (by simp; omega)))
    go_region_with (go_at_call 52; first | ((with_reducible refine (repeat_any _ pl.length _ (drew_new _ _ _ rfl) hlen).mono ?_); rintro e w2 ⟨rfl, hr2, hb2⟩; simp only [World.size_drew, World.size_alloc] at hr2; replace hr2 := Lib.hid hr2; obtain ⟨r2, s2⟩ := bcell hb2; have z2 : w.heap.size + 1 < w2.heap.size := (by have := hb2.size; simp only [World.size_alloc, World.size_drew] at this; omega)) | ((with_reducible refine (repeat_any _ pl.length _ (drew_old _ _ _ _ (heap_new _ _ _ rfl)) hlen).mono ?_); rintro e w2 ⟨rfl, hr2, hb2⟩; simp only [World.size_drew, World.size_alloc] at hr2; replace hr2 := Lib.hid hr2; obtain ⟨r2, s2⟩ := bcell hb2; have z2 : w.heap.size + 1 < w2.heap.size := (by have := hb2.size; simp only [World.size_alloc, World.size_drew] at this; omega)) | ((with_reducible refine (repeat_any _ pl.length _ (drew_new _ _ _ (by simp)) hlen).mono ?_); rintro e w2 ⟨rfl, hr2, hb2⟩; simp only [World.size_drew, World.size_alloc] at hr2; replace hr2 := Lib.hid hr2; obtain ⟨r2, s2⟩ := bcell hb2; have z2 : w.heap.size + 1 < w2.heap.size := (by have := hb2.size; simp only [World.size_alloc, World.size_drew] at this; omega)))
    all_goals go_wp2
    all_goals first
      | (obtain ⟨Wf, hWf⟩ : ∃ Wf, Wf = (S6 w2 (w.heap.size + 1) pl.length (w1.heap.size + 1) w2.heap.size).alloc (.cells (cntRow pl.length fun _ => 0) 3) := ⟨_, rfl⟩
         have F : NewFin w pl.length Wf (w1.heap.size + 1) (w2.heap.size) := by rw [hWf]; exact newfin_A hr2.out ((hb2.block _ (by simp; omega)).trans (drew_old _ _ _ _ hblk.out)) (hBw.out.trans ((((Below.refl _ w1).alloc (Nat.le_refl _) _).drew.trans (hb2.mono (by simp))).mono hBw.out.size)) (by omega)
         unfold S6 at hWf
         rw [← hWf]
         replace hWf := Lib.hid hWf
         exact new_closeF F (by omega) (by omega) hck.out hlen rfl rfl rfl)
      | (obtain ⟨Wf, hWf⟩ : ∃ Wf, Wf = S6 w2 (w.heap.size + 1) pl.length (w1.heap.size + 1 + 1) (w1.heap.size + 1) := ⟨_, rfl⟩
         have F : NewFin w pl.length Wf (w1.heap.size + 1 + 1) (w1.heap.size + 1) := by rw [hWf]; exact newfin_B hr2.out ((hb2.block _ (by simp)).trans (drew_old _ _ _ _ (heap_new _ _ _ (by simp)))) ((hb2.block _ (by simp; omega)).trans (drew_old _ _ _ _ (heap_old _ _ _ _ hblk.out))) (hBw.out.trans (((((Below.refl _ w1).alloc (Nat.le_refl _) _).alloc (by simp) _).drew.trans (hb2.mono (by simp; omega))).mono hBw.out.size)) (by omega) (by omega)
         unfold S6 at hWf
         rw [← hWf]
         replace hWf := Lib.hid hWf
         exact new_closeF F (by omega) (by omega) hck.out hlen rfl rfl rfl)
      | (obtain ⟨Wf, hWf⟩ : ∃ Wf, Wf = S6 w2 (w.heap.size + 1) pl.length (w1.heap.size + 1 + 1) (w1.heap.size + 1) := ⟨_, rfl⟩
         have F : NewFin w pl.length Wf (w1.heap.size + 1 + 1) (w1.heap.size + 1) := by rw [hWf]; exact newfin_B hr2.out ((hb2.block _ (by simp)).trans (drew_new _ _ _ (by simp))) ((hb2.block _ (by simp; omega)).trans (drew_old _ _ _ _ (heap_old _ _ _ _ hblk.out))) (hBw.out.trans (((((Below.refl _ w1).alloc (Nat.le_refl _) _).alloc (by simp) _).drew.trans (hb2.mono (by simp; omega))).mono hBw.out.size)) (by omega) (by omega)
         unfold S6 at hWf
         rw [← hWf]
         replace hWf := Lib.hid hWf
         exact new_closeF F (by omega) (by omega) hck.out hlen rfl rfl rfl)
      | (obtain ⟨Wf, hWf⟩ : ∃ Wf, Wf = S6 w2 (w.heap.size + 1) pl.length (w1.heap.size + 1 + 1) w1.heap.size := ⟨_, rfl⟩
         have F : NewFin w pl.length Wf (w1.heap.size + 1 + 1) (w1.heap.size) := by rw [hWf]; exact newfin_B hr2.out ((hb2.block _ (by simp; omega)).trans (drew_old _ _ _ _ (heap_new _ _ _ rfl))) ((hb2.block _ (by simp; omega)).trans (drew_old _ _ _ _ (heap_old _ _ _ _ hblk.out))) (hBw.out.trans (((((Below.refl _ w1).alloc (Nat.le_refl _) _).alloc (by simp) _).drew.trans (hb2.mono (by simp; omega))).mono hBw.out.size)) (by omega) (by omega)
         unfold S6 at hWf
         rw [← hWf]
         replace hWf := Lib.hid hWf
         exact new_closeF F (by omega) (by omega) hck.out hlen rfl rfl rfl)
end Go.Proofs.Ytpgkhlpepckfgaa
end
section
namespace Go.Proofs.Ytpgkhlpepckfgaa
open Go.RowKit Go.Lib

/-- Of n fields the one at p stands at n - 1 - p then. -/
def mirP (n : Nat) (p : Portion) : Portion := ⟨(n : Int) - 1 - p.plot, p.loads⟩
def mirH (n : Nat) (h : Heap) : Heap := { h with parts := h.parts.map (mirP n) }
def mirS (n : Nat) (s : Store) : Store := { s with last := s.last.reverse, given := s.given.reverse, heaps := s.heaps.map (mirH n), used := s.used.map (mirP n), waste := s.waste.map (mirP n) }
def plotC (a : Chore) (p : Int) : Chore := { a with plot := p }
def mirC (n : Nat) (a : Chore) : Chore := if a.kind = 2 then plotC a (wrap64 ((n : Int) - 1 - a.plot)) else a
section
variable {n : Nat}
theorem mirP_eq {p q : Portion} : (mirP n p).plot = (mirP n q).plot ↔ p.plot = q.plot := by
  show (n : Int) - 1 - p.plot = (n : Int) - 1 - q.plot ↔ _
  omega
theorem sumL_mir (l : List Portion) : sumL (l.map (mirP n)) = sumL l := by
  unfold sumL; rw [List.map_map]; rfl
theorem ofL_mir (k : Int) : ∀ l : List Portion, ofL (l.map (mirP n)) ((n : Int) - 1 - k) = ofL l k
  | [] => rfl
  | p :: l => by
    rw [List.map_cons, ofL_cons, ofL_cons, ofL_mir k l]
    show (if (n : Int) - 1 - p.plot = (n : Int) - 1 - k then p.loads else 0) + _ = _
    by_cases h : p.plot = k
    · rw [if_pos (by omega), if_pos h]
    · rw [if_neg (by omega), if_neg h]
theorem add_mir (l : List Portion) (p : Portion) : addPart (l.map (mirP n)) (mirP n p) = (addPart l p).map (mirP n) := by
  rcases List.eq_nil_or_concat l with rfl | ⟨l0, q, rfl⟩
  · rw [List.map_nil, add_nil, add_nil]; rfl
  · rw [List.concat_eq_append, List.map_append]
    show addPart (l0.map (mirP n) ++ [mirP n q]) (mirP n p) = _
    rw [add_snoc, add_snoc]
    by_cases h : q.plot = p.plot
    · rw [if_pos (mirP_eq.2 h), if_pos h, List.map_append]; rfl
    · rw [if_neg (fun e => h (mirP_eq.1 e)), if_neg h, List.map_append, List.map_append]; rfl
theorem behind_mir : ∀ (m l : List Portion), behindP (l.map (mirP n)) (m.map (mirP n)) = (behindP l m).map (mirP n)
  | [], _ => rfl
  | p :: m, l => by
    show behindP (addPart (l.map (mirP n)) (mirP n p)) (m.map (mirP n)) = (behindP (addPart l p) m).map (mirP n)
    rw [add_mir, behind_mir m]
theorem cut_mir : ∀ (l : List Portion) (r : Int), cutF (l.map (mirP n)) r = (cutF l r).map (mirP n) ∧ cutR (l.map (mirP n)) r = (cutR l r).map (mirP n)
  | [], _ => ⟨rfl, rfl⟩
  | p :: l, r => by
    obtain ⟨i1, i2⟩ := cut_mir l (r - min r p.loads)
    rw [List.map_cons, cutF_cons, cutF_cons, cutR_cons, cutR_cons, List.map_append, List.map_append]
    show firstL (stepP (mirP n p) r) ++ cutF (l.map (mirP n)) (r - min r p.loads) = _ ∧ restL (stepP (mirP n p) r) ++ cutR (l.map (mirP n)) (r - min r p.loads) = _
    rw [i1, i2, firstL_step, firstL_step, restL_stepP, restL_stepP]
    show (if 0 < min r p.loads then [mirP n ⟨p.plot, min r p.loads⟩] else []) ++ _ = _ ∧ (if min r p.loads < p.loads then [mirP n ⟨p.plot, p.loads - min r p.loads⟩] else []) ++ _ = _
    refine ⟨?_, ?_⟩ <;> split <;> rfl
theorem leftL_cons (h : Heap) (l : List Heap) (k : Int) : leftL (h :: l) k = ofL h.parts k + leftL l k := by simp [leftL]
theorem leftL_mir (k : Int) : ∀ l : List Heap, leftL (l.map (mirH n)) ((n : Int) - 1 - k) = leftL l k
  | [] => rfl
  | h :: l => by
    rw [List.map_cons, leftL_cons, leftL_cons, leftL_mir k l]
    show ofL (h.parts.map (mirP n)) _ + _ = _
    rw [ofL_mir]
theorem heapsL_mir (l : List Heap) : heapsL (l.map (mirH n)) = heapsL l := by
  unfold heapsL
  rw [List.map_map]
  congr 1
  apply List.map_congr_left
  intro h _
  exact sumL_mir _
theorem total_mir (s : Store) : totalS (mirS n s) = totalS s := by
  show sumL (s.used.map _) + sumL (s.waste.map _) + heapsL (s.heaps.map _) = _
  rw [sumL_mir, sumL_mir, heapsL_mir]; rfl
theorem getD_mirH (l : List Heap) (k : Nat) : (l.map (mirH n)).getD k default = mirH n (l.getD k default) := by
  rw [List.getD_eq_getElem?_getD, List.getD_eq_getElem?_getD, List.getElem?_map]
  cases l[k]? <;> rfl
theorem idx_mir (nm : ByteArray) (l : List Heap) : nameIdx nm (l.map (mirH n)) = nameIdx nm l := idx_map nm (by rw [List.map_map]; rfl)
theorem getD_rev {α : Type} (l : List α) (d : α) {i j : Nat} (hi : i + j + 1 = l.length) : l.reverse.getD i d = l.getD j d := by
  have h1 : i < l.reverse.length := by rw [List.length_reverse]; omega
  have h2 : j < l.length := by omega
  rw [getD_lt _ h1, getD_lt _ h2, List.getElem_reverse]
  have e : l.length - 1 - i = j := by omega
  simp only [e]
theorem set_rev {α : Type} (l : List α) (x : α) {i j : Nat} (hi : i + j + 1 = l.length) : l.reverse.set i x = (l.set j x).reverse := by
  apply List.ext_getElem
  · simp
  · intro k h1 h2
    have hk : k < l.length := by simpa using h1
    rw [List.getElem_set, List.getElem_reverse, List.getElem_reverse, List.getElem_set]
    simp only [List.length_set]
    by_cases hk : i = k
    · rw [if_pos hk, if_pos (by omega)]
    · rw [if_neg hk, if_neg (by omega)]
theorem sum_rev (l : List Int) : l.reverse.sum = l.sum := by
  induction l with
  | nil => rfl
  | cons x l ih => simp [ih]; omega
theorem map_eraseH (f : Heap → Heap) : ∀ (l : List Heap) (k : Nat), (l.map f).eraseIdx k = (l.eraseIdx k).map f
  | [], _ => rfl
  | _ :: _, 0 => rfl
  | a :: l, k + 1 => by rw [List.map_cons, List.eraseIdx_cons_succ, List.eraseIdx_cons_succ, List.map_cons, map_eraseH f l k]
end
section
variable {pl : List Plot} {dry : Int} {s : Store}
theorem plots_mir (h : checkI pl dry = 0) : checkI pl.reverse dry = 0 := by
  obtain ⟨h1, h2, h3⟩ := checkI_zero h
  have hz : ∀ j, j < pl.reverse.length → plotErr pl.reverse j = 0 := fun j hj => by
    have hj' : j < pl.length := by simpa using hj
    have e : pl.reverse[j] = pl[pl.length - 1 - j]'(by omega) := by rw [List.getElem_reverse]
    obtain ⟨q1, q2, q3⟩ := plotErr_zero (k := pl.length - 1 - j) (by omega) (h2 _ (by omega))
    refine plotErr_ok hj (by rw [e]; exact q1) ?_ (by rw [e]; exact q3)
    rw [e]
    unfold hasName
    rw [List.any_eq_false]
    intro x hx
    obtain ⟨i, hi, rfl⟩ := List.mem_take_iff_getElem.1 hx
    have hi2 : i < pl.length := by simp at hi; omega
    have hij : i < j := by simp at hi; omega
    have ei : pl.reverse[i]'(by simpa using hi2) = pl[pl.length - 1 - i]'(by omega) := by rw [List.getElem_reverse]
    have hm := (plotErr_zero (k := pl.length - 1 - i) (by omega) (h2 _ (by omega))).2.1
    unfold hasName at hm
    rw [List.any_eq_false] at hm
    have hq := hm (pl[pl.length - 1 - j]'(by omega)) (List.mem_take_iff_getElem.2 ⟨pl.length - 1 - j, by omega, rfl⟩)
    rw [ei]
    simp only [decide_eq_true_eq] at hq ⊢
    exact fun e => hq e.symm
  rw [checkI_end (by simpa using h1) hz, if_pos h3]
theorem OkP.mir {n : Nat} {l : List Portion} (h : OkP n l) : OkP n (l.map (mirP n)) := by
  refine ⟨fun p hp => ?_, fun p hp => ?_, (adj_iff _).2 fun j hj => ?_⟩
  · obtain ⟨q, hq, rfl⟩ := List.mem_map.1 hp
    have := h.1 q hq
    show 0 ≤ (n : Int) - 1 - q.plot ∧ (n : Int) - 1 - q.plot < n
    omega
  · obtain ⟨q, hq, rfl⟩ := List.mem_map.1 hp
    exact h.2.1 q hq
  · rw [List.getElem_map, List.getElem_map]
    exact fun e => (adj_iff l).1 h.2.2 j (by simpa using hj) (mirP_eq.1 e)
theorem OkH.mir {h : Heap} (k : OkH pl h) : OkH pl.reverse (mirH pl.length h) := by
  refine ⟨k.name, k.crop, k.stage, fun e => k.some (List.map_eq_nil_iff.1 e), by rw [List.length_reverse]; exact k.parts.mir, k.wet, fun p hp => ?_, ?_⟩
  · obtain ⟨q, hq, rfl⟩ := List.mem_map.1 hp
    have hr := k.parts.1 q hq
    have e : (mirP pl.length q).plot.toNat + q.plot.toNat + 1 = pl.length := by
      show ((pl.length : Int) - 1 - q.plot).toNat + q.plot.toNat + 1 = pl.length
      omega
    rw [getD_rev pl default e]
    exact k.crops q hq
  · have := k.per
    show if h.stage = 3 then (1 ≤ h.per ∧ h.per ≤ 100) ∧ sumL (h.parts.map (mirP pl.length)) % h.per = 0 else h.per = 0
    rw [sumL_mir]
    exact this
theorem OkS.mir (k : OkS pl s) : OkS pl.reverse (mirS pl.length s) := by
  refine ⟨k.year, ?_, ?_, ?_, by rw [List.length_reverse]; exact k.used.mir, by rw [List.length_reverse]; exact k.waste.mir, fun x hx => ?_, ?_, by rw [total_mir]; exact k.total, fun i hi => ?_, fun i hi => ?_⟩
  · show s.last.reverse.length = pl.reverse.length
    rw [List.length_reverse, List.length_reverse, k.last]
  · show s.given.reverse.length = pl.reverse.length
    rw [List.length_reverse, List.length_reverse, k.given]
  · show (s.heaps.map _).length ≤ 16
    rw [List.length_map]; exact k.hlen
  · obtain ⟨y, hy, rfl⟩ := List.mem_map.1 hx
    exact (k.heaps y hy).mir
  · show (s.heaps.map (mirH pl.length)).Pairwise _
    rw [List.pairwise_map]
    exact k.names
  · have hi' : i < pl.length := by simpa using hi
    show -1 ≤ s.last.reverse.getD i 0 ∧ s.last.reverse.getD i 0 ≤ s.year
    rw [getD_rev s.last 0 (i := i) (j := pl.length - 1 - i) (by rw [k.last]; omega)]
    exact k.lasts _ (by omega)
  · have hi' : i < pl.length := by simpa using hi
    show s.given.reverse.getD i 0 = leftL (s.heaps.map (mirH pl.length)) i + ofL (s.used.map (mirP pl.length)) i + ofL (s.waste.map (mirP pl.length)) i
    obtain ⟨j, hj⟩ : ∃ j, i + j + 1 = pl.length := ⟨pl.length - 1 - i, by omega⟩
    have e : (i : Int) = (pl.length : Int) - 1 - (j : Int) := by omega
    rw [getD_rev s.given 0 (i := i) (j := j) (by rw [k.given]; omega), e, leftL_mir, ofL_mir, ofL_mir]
    exact k.givens _ (by omega)
theorem check_mir (h : checkS pl dry s = 0) : checkS pl.reverse dry (mirS pl.length s) = 0 := (check_ok h).mir.check (plots_mir (checkS_zero h).1)
/-- What a field has in the ledger. -/
theorem led_mir (k : OkS pl s) {i j : Nat} (hij : i + j + 1 = pl.length) : cntAt (mirS pl.length s) i = cntAt s j := by
  have e : (i : Int) = (pl.length : Int) - 1 - (j : Int) := by omega
  show (⟨s.given.reverse.getD i 0, ofL (s.used.map (mirP pl.length)) i, leftL (s.heaps.map (mirH pl.length)) i, ofL (s.waste.map (mirP pl.length)) i⟩ : Cnt) = _
  rw [getD_rev s.given 0 (i := i) (j := j) (by rw [k.given]; omega), e, leftL_mir, ofL_mir, ofL_mir]
  rfl
end
section
variable {n : Nat} {dry : Int} {s : Store} {k : Nat} {a : Chore}
/-- Both orders say the same, and leave the same store, in the other order. -/
def Mir (n : Nat) (x y : Int × Store) : Prop := x = (y.1, mirS n y.2)
theorem Mir.ite {p : Prop} [Decidable p] {e : Int} {x y : Store} {b b' : Int × Store} (hx : y = mirS n x) (h : ¬ p → Mir n b' b) : Mir n (if p then (e, y) else b') (if p then (e, x) else b) := by
  by_cases hp : p
  · rw [if_pos hp, if_pos hp, hx]; rfl
  · rw [if_neg hp, if_neg hp]; exact h hp
theorem Mir.end {x y : Store} (hx : y = mirS n x) : Mir n ((0 : Int), y) (0, x) := by rw [hx]; rfl
theorem keep_mir (s : Store) (k : Nat) (l : List Portion) : keepP (mirS n s) k (l.map (mirP n)) = mirS n (keepP s k l) := by
  unfold keepP
  by_cases h : l = []
  · rw [if_pos h, if_pos (by rw [h]; rfl)]
    show ({ mirS n s with heaps := (s.heaps.map (mirH n)).eraseIdx k } : Store) = _
    rw [map_eraseH]; rfl
  · rw [if_neg h, if_neg (fun e => h (List.map_eq_nil_iff.1 e))]
    show ({ mirS n s with heaps := (s.heaps.map (mirH n)).set k (setPartsH ((s.heaps.map (mirH n)).getD k default) (l.map (mirP n))) } : Store) = { mirS n s with heaps := (s.heaps.set k (setPartsH (s.heaps.getD k default) l)).map (mirH n) }
    rw [getD_mirH, List.map_set]; rfl
theorem year_mir : Mir n (yearP (mirS n s)) (yearP s) := by
  have e : (mirS n s).year = s.year := rfl
  unfold yearP
  rw [e]
  by_cases h : s.year < 100
  · rw [if_pos h, if_pos h]; rfl
  · rw [if_neg h, if_neg h]; rfl
theorem set_mir (s : Store) (k : Nat) (g : Heap) : ({ mirS n s with heaps := (mirS n s).heaps.set k (mirH n g) } : Store) = mirS n { s with heaps := s.heaps.set k g } := by
  show ({ mirS n s with heaps := (s.heaps.map (mirH n)).set k (mirH n g) } : Store) = { mirS n s with heaps := (s.heaps.set k g).map (mirH n) }
  rw [List.map_set]
theorem push_mir (s : Store) (g : Heap) : pushH (mirS n s) (mirH n g) = mirS n (pushH s g) := by
  show ({ mirS n s with heaps := s.heaps.map (mirH n) ++ [mirH n g] } : Store) = { mirS n s with heaps := (s.heaps ++ [g]).map (mirH n) }
  rw [List.map_append]; rfl
theorem dry_mir : Mir n (dryP (mirS n s) k a) (dryP s k a) := by
  unfold dryP
  have e : (mirS n s).heaps.getD k default = mirH n (s.heaps.getD k default) := getD_mirH _ _
  rw [e]
  generalize s.heaps.getD k default = H
  refine Mir.ite rfl fun _ => Mir.ite rfl fun _ => Mir.end ?_
  exact set_mir s k (wetH H ⟨clampP (H.wet.lo - 20 * a.days + 5 * a.rain.lo), clampP (H.wet.hi - 10 * a.days + 15 * a.rain.hi)⟩)
theorem comb_mir : Mir n (combP dry (mirS n s) k a) (combP dry s k a) := by
  unfold combP
  have e : (mirS n s).heaps.getD k default = mirH n (s.heaps.getD k default) := getD_mirH _ _
  rw [e]
  generalize s.heaps.getD k default = H
  have e1 : cutF (mirH n H).parts a.loads = (cutF H.parts a.loads).map (mirP n) := (cut_mir _ _).1
  have e2 : cutR (mirH n H).parts a.loads = (cutR H.parts a.loads).map (mirP n) := (cut_mir _ _).2
  have e3 : sumL (mirH n H).parts = sumL H.parts := sumL_mir _
  rw [e1, e2, e3]
  have e4 : behindP (mirS n s).waste ((cutF H.parts a.loads).map (mirP n)) = (behindP s.waste (cutF H.parts a.loads)).map (mirP n) := behind_mir _ _
  rw [e4]
  refine Mir.ite rfl fun _ => Mir.ite rfl fun _ => Mir.end ?_
  exact set_mir { s with waste := behindP s.waste (cutF H.parts a.loads) } k (stageH (setPartsH H (cutR H.parts a.loads)) 2)
theorem join_mir : Mir n (joinP (mirS n s) k a) (joinP s k a) := by
  unfold joinP
  have e0 : nameIdx a.other (mirS n s).heaps = nameIdx a.other s.heaps := idx_mir _ _
  rw [e0]
  generalize hm : nameIdx a.other s.heaps = m
  have e : (mirS n s).heaps.getD k default = mirH n (s.heaps.getD k default) := getD_mirH _ _
  have e1 : (mirS n s).heaps.getD m.toNat default = mirH n (s.heaps.getD m.toNat default) := getD_mirH _ _
  rw [e, e1]
  generalize s.heaps.getD k default = G
  generalize s.heaps.getD m.toNat default = H
  have e2 : behindP (mirH n G).parts (mirH n H).parts = (behindP G.parts H.parts).map (mirP n) := behind_mir _ _
  rw [e2]
  refine Mir.ite rfl fun _ => Mir.ite rfl fun _ => Mir.ite rfl fun _ => Mir.end ?_
  rw [← keep_mir]
  show keepP ({ mirS n s with heaps := (s.heaps.map (mirH n)).set k _ } : Store) _ [] = keepP ({ mirS n s with heaps := (s.heaps.set k _).map (mirH n) } : Store) _ []
  rw [List.map_set]; rfl
theorem bind_mir : Mir n (bindP dry (mirS n s) k a) (bindP dry s k a) := by
  unfold bindP
  have e0 : nameIdx a.other (mirS n s).heaps = nameIdx a.other s.heaps := idx_mir _ _
  have e : (mirS n s).heaps.getD k default = mirH n (s.heaps.getD k default) := getD_mirH _ _
  rw [e0, e]
  generalize s.heaps.getD k default = H
  have e3 : sumL (mirH n H).parts = sumL H.parts := sumL_mir _
  rw [e3]
  generalize sumL H.parts / a.per * a.per = x
  have e1 : cutF (mirH n H).parts x = (cutF H.parts x).map (mirP n) := (cut_mir _ _).1
  have e2 : cutR (mirH n H).parts x = (cutR H.parts x).map (mirP n) := (cut_mir _ _).2
  rw [e1, e2, keep_mir]
  generalize keepP s k (cutR H.parts x) = t
  have e4 : (mirS n t).heaps.length = t.heaps.length := List.length_map _
  rw [e4]
  refine Mir.ite rfl fun _ => Mir.ite rfl fun _ => Mir.ite rfl fun _ => Mir.ite rfl fun _ => Mir.ite rfl fun _ => Mir.ite rfl fun _ => Mir.end ?_
  exact push_mir t ⟨a.other, H.crop, 3, cutF H.parts x, a.per, H.wet, none, 0⟩
theorem use_mir : Mir n (useP (mirS n s) k a) (useP s k a) := by
  unfold useP
  have e : (mirS n s).heaps.getD k default = mirH n (s.heaps.getD k default) := getD_mirH _ _
  rw [e]
  generalize s.heaps.getD k default = H
  have e3 : sumL (mirH n H).parts = sumL H.parts := sumL_mir _
  have e5 : (mirH n H).per = H.per := rfl
  rw [e3, e5]
  generalize a.loads * H.per = x
  have e1 : cutF (mirH n H).parts x = (cutF H.parts x).map (mirP n) := (cut_mir _ _).1
  have e2 : cutR (mirH n H).parts x = (cutR H.parts x).map (mirP n) := (cut_mir _ _).2
  rw [e1, e2]
  have e4 : behindP (mirS n s).used ((cutF H.parts x).map (mirP n)) = (behindP s.used (cutF H.parts x)).map (mirP n) := behind_mir _ _
  rw [e4]
  refine Mir.ite rfl fun _ => Mir.ite rfl fun _ => Mir.end ?_
  rw [← keep_mir]; rfl
theorem rot_mir : Mir n (rotP dry (mirS n s) k) (rotP dry s k) := by
  unfold rotP
  have e : (mirS n s).heaps.getD k default = mirH n (s.heaps.getD k default) := getD_mirH _ _
  rw [e]
  generalize s.heaps.getD k default = H
  have e4 : behindP (mirS n s).waste (mirH n H).parts = (behindP s.waste H.parts).map (mirP n) := behind_mir _ _
  rw [e4]
  refine Mir.ite rfl fun _ => Mir.end ?_
  rw [← keep_mir]; rfl
end
section
variable {pl : List Plot} {dry : Int} {s : Store} {a : Chore}
theorem wrap_in {n : Nat} {p : Int} (hn : n ≤ 12) (h0 : 0 ≤ p) (h1 : p < (n : Int)) : wrap64 ((n : Int) - 1 - p) = (n : Int) - 1 - p := by unfold wrap64; omega
theorem wrap_out {n : Nat} {p : Int} (hn : n ≤ 12) (hr : -9223372036854775808 ≤ p ∧ p ≤ 9223372036854775807) (h : inB p 0 ((n : Int) - 1) = false) : inB (wrap64 ((n : Int) - 1 - p)) 0 ((n : Int) - 1) = false := by
  refine inB_false fun q => ?_
  have hp : ¬ (0 ≤ p ∧ p ≤ (n : Int) - 1) := fun x => by rw [inB_true x.1 x.2] at h; cases h
  unfold wrap64 at q
  omega
theorem mow_mir (hl : s.last.length = pl.length) (hg : s.given.length = pl.length) (hn : pl.length ≤ 12) (hr : -9223372036854775808 ≤ a.plot ∧ a.plot ≤ 9223372036854775807) :
    Mir pl.length (mowP pl.reverse (mirS pl.length s) (plotC a (wrap64 ((pl.length : Int) - 1 - a.plot)))) (mowP pl s a) := by
  unfold mowP
  rw [List.length_reverse]
  by_cases hb : inB a.plot 0 ((pl.length : Int) - 1) = false
  · rw [if_pos hb, if_pos (by exact wrap_out hn hr hb)]; rfl
  have hb' : inB a.plot 0 ((pl.length : Int) - 1) = true := by simpa using hb
  simp only [inB, Bool.and_eq_true, decide_eq_true_eq] at hb'
  obtain ⟨p, hp⟩ : ∃ p : Nat, a.plot = (p : Int) := ⟨a.plot.toNat, by omega⟩
  obtain ⟨q, hq⟩ : ∃ q, q + p + 1 = pl.length := ⟨pl.length - 1 - p, by omega⟩
  have hw : wrap64 ((pl.length : Int) - 1 - a.plot) = (q : Int) := by rw [wrap_in hn hb'.1 (by omega)]; omega
  rw [hw]
  rw [if_neg hb, if_neg (by show ¬ inB (q : Int) 0 ((pl.length : Int) - 1) = false; rw [inB_true (by omega) (by omega)]; decide)]
  have f1 : (plotC a (q : Int)).plot.toNat = q := rfl
  have f2 : a.plot.toNat = p := by rw [hp]; rfl
  rw [f1, f2]
  have e1 : (mirS pl.length s).last.getD q 0 = s.last.getD p 0 := getD_rev _ _ (by rw [hl]; exact hq)
  have e2 : pl.reverse.getD q default = pl.getD p default := getD_rev _ _ hq
  have e3 : (mirS pl.length s).given.getD q 0 = s.given.getD p 0 := getD_rev _ _ (by rw [hg]; exact hq)
  have e4 : (mirS pl.length s).given.sum = s.given.sum := sum_rev _
  have e5 : nameIdx (plotC a (q : Int)).name (mirS pl.length s).heaps = nameIdx a.name s.heaps := idx_mir _ _
  have e6 : (mirS pl.length s).heaps.length = s.heaps.length := List.length_map _
  rw [e1, e2, e3, e4, e5, e6]
  generalize pl.getD p default = P
  refine Mir.ite rfl fun _ => Mir.ite rfl fun _ => Mir.ite rfl fun _ => Mir.ite rfl fun _ => Mir.ite rfl fun _ => Mir.end ?_
  have e7 : (mirS pl.length s).last.set q s.year = (s.last.set p s.year).reverse := set_rev _ _ (by rw [hl]; exact hq)
  have e8 : (mirS pl.length s).given.set q (s.given.getD p 0 + a.loads) = (s.given.set p (s.given.getD p 0 + a.loads)).reverse := set_rev _ _ (by rw [hg]; exact hq)
  have e9 : mirP pl.length ⟨a.plot, a.loads⟩ = ⟨(q : Int), a.loads⟩ := by
    show (⟨(pl.length : Int) - 1 - a.plot, a.loads⟩ : Portion) = _
    congr 1; omega
  show ({ mirS pl.length s with last := (mirS pl.length s).last.set q s.year, given := (mirS pl.length s).given.set q (s.given.getD p 0 + a.loads), heaps := s.heaps.map (mirH pl.length) ++ [(⟨a.name, P.crop, 1, [⟨(q : Int), a.loads⟩], 0, P.wet, none, 0⟩ : Heap)] } : Store) =
    { mirS pl.length s with last := (s.last.set p s.year).reverse, given := (s.given.set p (s.given.getD p 0 + a.loads)).reverse, heaps := (s.heaps ++ [(⟨a.name, P.crop, 1, [⟨a.plot, a.loads⟩], 0, P.wet, none, 0⟩ : Heap)]).map (mirH pl.length) }
  rw [e7, e8, List.map_append, ← e9]; rfl
theorem work_mir (hl : s.last.length = pl.length) (hg : s.given.length = pl.length) (hn : pl.length ≤ 12) (hr : -9223372036854775808 ≤ a.plot ∧ a.plot ≤ 9223372036854775807) :
    Mir pl.length (workP pl.reverse dry (mirS pl.length s) (mirC pl.length a)) (workP pl dry s a) := by
  unfold workP
  by_cases k2 : a.kind = 2
  · have e : mirC pl.length a = plotC a (wrap64 ((pl.length : Int) - 1 - a.plot)) := if_pos k2
    have e2 : (mirC pl.length a).kind = 2 := by rw [e]; exact k2
    rw [if_neg (by rw [e2]; decide), if_pos e2, if_neg (by rw [k2]; decide), if_pos k2, e]
    exact mow_mir hl hg hn hr
  · have e : mirC pl.length a = a := if_neg k2
    rw [e, if_neg k2, if_neg k2]
    have e0 : nameIdx a.name (mirS pl.length s).heaps = nameIdx a.name s.heaps := idx_mir _ _
    rw [e0]
    by_cases k1 : a.kind = 1
    · rw [if_pos k1, if_pos k1]; exact year_mir
    rw [if_neg k1, if_neg k1]
    refine Mir.ite rfl fun _ => ?_
    by_cases k3 : a.kind = 3
    · rw [if_pos k3, if_pos k3]; exact dry_mir
    rw [if_neg k3, if_neg k3]
    by_cases k4 : a.kind = 4
    · rw [if_pos k4, if_pos k4]; exact comb_mir
    rw [if_neg k4, if_neg k4]
    by_cases k5 : a.kind = 5
    · rw [if_pos k5, if_pos k5]; exact join_mir
    rw [if_neg k5, if_neg k5]
    by_cases k6 : a.kind = 6
    · rw [if_pos k6, if_pos k6]; exact bind_mir
    rw [if_neg k6, if_neg k6]
    by_cases k7 : a.kind = 7
    · rw [if_pos k7, if_pos k7]; exact use_mir
    rw [if_neg k7, if_neg k7]; exact rot_mir
theorem mirC_kind (n : Nat) (a : Chore) : (mirC n a).kind = a.kind := by unfold mirC; split <;> rfl
theorem mirC_same (n : Nat) (a : Chore) : sameChore (namedP (mirC n a)) (mirC n a) = sameChore (namedP a) a := by
  by_cases k2 : a.kind = 2
  · have e : mirC n a = plotC a (wrap64 ((n : Int) - 1 - a.plot)) := if_pos k2
    rw [e]
    simp [sameChore, namedP, plotC, k2]
  · rw [show mirC n a = a from if_neg k2]
theorem do_mir (h : checkS pl dry s = 0) (hr : -9223372036854775808 ≤ a.plot ∧ a.plot ≤ 9223372036854775807) : Mir pl.length (doP pl.reverse dry (mirS pl.length s) (mirC pl.length a)) (doP pl dry s a) := by
  have ho := check_ok h
  have hw : workP pl.reverse dry (mirS pl.length s) (mirC pl.length a) = _ := work_mir (dry := dry) ho.last ho.given (checkI_zero (checkS_zero h).1).1 hr
  unfold doP
  rw [h, check_mir h, mirC_kind, mirC_same, hw]
  exact Mir.ite rfl fun _ => Mir.ite rfl fun _ => Mir.ite rfl fun _ => Mir.ite rfl fun _ => Mir.end rfl
theorem run_mir : ∀ (l : List Chore) (s : Store), (∀ a ∈ l, -9223372036854775808 ≤ a.plot ∧ a.plot ≤ 9223372036854775807) → checkS pl dry s = 0 →
    runL pl.reverse dry (mirS pl.length s) (l.map (mirC pl.length)) = (mirS pl.length (runL pl dry s l).1, (runL pl dry s l).2)
  | [], _, _, _ => rfl
  | a :: l, s, hr, h => by
    have hd : doP pl.reverse dry (mirS pl.length s) (mirC pl.length a) = _ := do_mir h (hr a (by simp))
    rw [List.map_cons, runL_cons, runL_cons, hd]
    by_cases h0 : (doP pl dry s a).1 = 0
    · rw [if_pos h0, if_pos h0]
      dsimp only
      rw [run_mir l _ (fun x hx => hr x (by simp [hx])) (do_ok h0).2.1]
    · rw [if_neg h0, if_neg h0]
theorem new_mir (h : checkI pl dry = 0) : newS pl.reverse dry = mirS pl.length (newS pl dry) := by
  unfold newS
  rw [if_pos h, if_pos (plots_mir h)]
  simp [mirS]
end
end Go.Proofs.Ytpgkhlpepckfgaa
end
section
namespace Go.Proofs.Ytpgkhlpepckfgaa
open Go.RowKit Go.Lib

/-- The same fields, in the other order. -/
def mirL (n : Nat) (s : List Int) : List Int := (s.map fun i => (n : Int) - 1 - i).reverse
section
variable {pl : List Plot} {dry : Int}
theorem mirL_twice (n : Nat) (s : List Int) : mirL n (mirL n s) = s := by
  unfold mirL
  rw [List.map_reverse, List.reverse_reverse, List.map_map]
  have : ((fun i => (n : Int) - 1 - i) ∘ fun i => (n : Int) - 1 - i) = id := by funext i; show (n : Int) - 1 - ((n : Int) - 1 - i) = i; omega
  rw [this, List.map_id]
theorem mirL_fields (n : Nat) : mirL n (fields 0 n) = fields 0 n := by
  unfold mirL
  rw [fields_range]
  apply List.ext_getElem
  · simp
  · intro i h1 h2
    have hi : i < n := by simpa using h2
    simp only [List.getElem_reverse, List.getElem_map, List.getElem_range, List.length_map, List.length_range]
    omega
theorem mirL_sub {n : Nat} {s : List Int} (h : s.Sublist (fields 0 n)) : (mirL n s).Sublist (fields 0 n) := by
  have := (h.map fun i => (n : Int) - 1 - i).reverse
  rw [show ((fields 0 n).map fun i => (n : Int) - 1 - i).reverse = fields 0 n from mirL_fields n] at this
  exact this
theorem plotAt_mir {i : Int} (h0 : 0 ≤ i) (h1 : i < (pl.length : Int)) : plotAt pl.reverse ((pl.length : Int) - 1 - i) = plotAt pl i := by
  unfold plotAt
  exact getD_rev _ _ (by omega)
theorem costOf_rev (l : List Plot) (s : List Int) : costOf l s.reverse = costOf l s := by
  unfold costOf
  rw [List.map_reverse, sum_rev]
theorem cost_mir {s : List Int} (h : InFields pl s) : costOf pl.reverse (mirL pl.length s) = costOf pl s := by
  unfold mirL
  rw [costOf_rev]
  unfold costOf
  rw [List.map_map]
  congr 1
  apply List.map_congr_left
  intro i hi
  obtain ⟨h0, h1⟩ := h i hi
  show (plotAt pl.reverse ((pl.length : Int) - 1 - i)).cost = _
  rw [plotAt_mir h0 h1]
theorem needSub_comm (n : Need) (c d x y : Int) : needSub (needSub n c x) d y = needSub (needSub n d y) c x := by
  unfold needSub
  by_cases c1 : c = 1 <;> by_cases c2 : c = 2 <;> by_cases d1 : d = 1 <;> by_cases d2 : d = 2 <;> simp_all <;> omega
theorem after_rev (l : List Plot) : ∀ (s : List Int) (n : Need), needAfter l n s.reverse = needAfter l n s
  | [], _ => rfl
  | i :: s, n => by
    have key : ∀ (s : List Int) (n : Need), needAfter l (subAt l n i) s = subAt l (needAfter l n s) i := fun s => by
      induction s with
      | nil => intro n; rfl
      | cons j s ih =>
        intro n
        show needAfter l (subAt l (subAt l n i) j) s = subAt l (needAfter l (subAt l n j) s) i
        rw [← ih]
        congr 1
        exact needSub_comm _ _ _ _ _
    rw [List.reverse_cons, needAfter_snoc, after_rev l s n]
    exact (key s n).symm
theorem after_map : ∀ (s : List Int) (n : Need), InFields pl s → needAfter pl.reverse n (s.map fun i => (pl.length : Int) - 1 - i) = needAfter pl n s
  | [], _, _ => rfl
  | i :: s, n, h => by
    obtain ⟨h0, h1⟩ := h i (by simp)
    show needAfter pl.reverse (subAt pl.reverse n ((pl.length : Int) - 1 - i)) (s.map fun i => (pl.length : Int) - 1 - i) = needAfter pl (subAt pl n i) s
    have e : subAt pl.reverse n ((pl.length : Int) - 1 - i) = subAt pl n i := by unfold subAt; rw [plotAt_mir h0 h1]
    rw [e]
    exact after_map s _ fun j hj => h j (by simp [hj])
theorem enough_mir {s : List Int} (n : Need) (h : InFields pl s) : enoughB pl.reverse n (mirL pl.length s) = enoughB pl n s := by
  unfold enoughB mirL
  rw [after_rev, after_map s n h]
/-- What one order finds, the other one finds for no more. -/
theorem least_mir {n : Need} {b c : Best} (hb : LeastOk pl n b) (hc : LeastOk pl.reverse n c) : c.found = b.found ∧ (b.found = true → c.cost ≤ b.cost) := by
  have hin := sub_in hb.sub
  have hw : c.found = b.found := by
    rw [hb.whole, hc.whole, List.length_reverse, ← mirL_fields, enough_mir n (sub_in (List.Sublist.refl _)), mirL_fields]
  refine ⟨hw, fun hf => ?_⟩
  rw [hb.cost, ← cost_mir hin]
  refine hc.least (hw.trans hf) _ (by rw [List.length_reverse]; exact mirL_sub hb.sub) ?_
  rw [enough_mir n hin]
  exact hb.enough hf
theorem choose_mir (h : checkI pl dry = 0) (n : Need) : (chooseP pl.reverse dry n).2 = (chooseP pl dry n).2 ∧ (chooseP pl.reverse dry n).1.found = (chooseP pl dry n).1.found ∧ (chooseP pl.reverse dry n).1.cost = (chooseP pl dry n).1.cost := by
  have h' := plots_mir h
  unfold chooseP
  rw [h, h', if_neg (show ¬ (0 : Int) ≠ 0 by decide), if_neg (show ¬ (0 : Int) ≠ 0 by decide)]
  by_cases hin : (inB n.reed 0 100000 && inB n.straw 0 100000 && inB n.heather 0 100000) = false
  · rw [if_pos hin, if_pos hin]; exact ⟨rfl, rfl, rfl⟩
  rw [if_neg hin, if_neg hin]
  have hb := least_ok n (checkI_ok h)
  have hc := least_ok n (checkI_ok h')
  generalize walkP pl 0 0 n [] ⟨false, 0, []⟩ = b at *
  generalize walkP pl.reverse 0 0 n [] ⟨false, 0, []⟩ = c at *
  obtain ⟨q1, q2⟩ := least_mir hb hc
  have hb' : LeastOk pl.reverse.reverse n b := by rw [List.reverse_reverse]; exact hb
  obtain ⟨q3, q4⟩ := least_mir hc hb'
  refine ⟨rfl, q1, ?_⟩
  cases hf : b.found with
  | true =>
    have h1 := q2 hf
    have h2 := q4 (q1.trans hf)
    show c.cost = b.cost
    omega
  | false => show c.cost = b.cost; rw [(hb.none hf).2, (hc.none (q1.trans hf)).2]
end
end Go.Proofs.Ytpgkhlpepckfgaa
end
section
namespace Go.Proofs.Ytpgkhlpepckfgaa
open Go.RowKit Go.Lib Go.ChangeShapes Go.WideShapes
section
variable {H : Type} {enc : TypeId × Value → H} {w : World} {base : Nat} {spare : Nat → Bool} {held : Bool}
/-- A chore that came in, its field's number a machine's. -/
def WellP (a : Chore) : Prop := WellC a ∧ -9223372036854775808 ≤ a.plot ∧ a.plot ≤ 9223372036854775807
theorem i64_wf {a : Int} (h : (Lit.int .i64 a).wf = true) : -9223372036854775808 ≤ a ∧ a ≤ 9223372036854775807 := by
  simp only [Lit.wf, Bool.and_eq_true, decide_eq_true_eq] at h
  exact ⟨h.1, h.2⟩
set_option maxRecDepth 100000 in
theorem trod_plot {n : Nat} {cs : List Value} {x : DataW H × List MemPlace} (h : DataW.trod enc Try.prog w base spare held n 64 cs = some x) {a : Chore} (e : cs = (choreCells a).toList) : (Lit.int .i64 a.plot).wf = true := by
  subst e
  obtain ⟨xs, m, _, _, hl, hx, hf⟩ := DataW.trod_struct Try.underlying64 h
  match xs, hx with
  | [y0, y1, y2, y3, y4, y5, y6, y7], _ =>
    have f1 : DataW.trod enc Try.prog w base spare held m 3 [.int .i64 a.plot] = some y1 := by have q : DataW.trod enc Try.prog w base spare held m 3 (((choreCells a).toList.drop 1).take (Try.prog.cellsOf 3)) = some y1 := hf 1 _ rfl; rw [cells3] at q; exact q
    obtain ⟨p1, e1, _, wf1⟩ := DataW.trod_int Try.underlying3 f1
    cases e1
    exact wf1
variable {r : Reach} {b0 : Nat} {v : Value} {d : DataW H} {p : List MemPlace}
set_option maxRecDepth 100000 in
/-- A row of chores, opened. -/
theorem open_row68p (hv : Value.okWide Try.prog w r b0 68 v) (h : DataW.Trod enc Try.prog w base spare held 68 v d p) (hs : Small 68 d) : ∃ A c, ∃ l : List Chore, v = .slice A l.length c ∧ RdChores w A l ∧ ∀ a ∈ l, -9223372036854775808 ≤ a.plot ∧ a.plot ≤ 9223372036854775807 := by
  obtain ⟨a, len, cap, rfl⟩ := okWide_slice Try.underlying68 hv
  obtain ⟨fuel, hf⟩ := h
  have hf' : DataW.trod enc Try.prog w base spare held fuel 68 [.slice a len cap] = some (d, p) := by simpa [Value.cells] using hf
  obtain ⟨A, c, l, e, hr, hq⟩ := open_flat (Q := WellP) Try.underlying68 cells64 (enc' := encChore) (fun _ => rfl) (of_decide_eq_true (by kernel_rfl)) (fun n cs x hx hsx => by
    obtain ⟨a, ea, ha⟩ := trod_chore hx hsx
    exact ⟨a, ea, ha, i64_wf (trod_plot hx ea)⟩) hf' hs
  exact ⟨A, c, l, e, ⟨hr, fun a ha => (hq a ha).1⟩, fun a ha => (hq a ha).2⟩
end
end Go.Proofs.Ytpgkhlpepckfgaa
end
section
namespace Go.Proofs.Ytpgkhlpepckfgaa
open Go.RowKit Go.Lib

/-- The farm and the need. -/
structure SwF (w : World) (A : Option Addr) (c : Nat) (pl : List Plot) (dry : Int) (n : Need) (W : World) : Prop where
  below : Below w.heap.size w W
  farm : W.heap[w.heap.size]? = some (.cells #[.slice A pl.length c, .int .i64 dry] 24 (0, 0))
  need : W.heap[w.heap.size + 1]? = some (.cells #[.int .i64 n.reed, .int .i64 n.straw, .int .i64 n.heather] 26 (0, 0))
  size : w.heap.size + 2 ≤ W.heap.size
section
variable {w : World} {A : Option Addr} {c : Nat} {pl : List Plot} {dry : Int} {n : Need} {W W' w1 : World}
theorem SwF.make : SwF w A c pl dry n ((w.alloc (.cells #[.slice A pl.length c, .int .i64 dry] 24)).alloc (.cells #[.int .i64 n.reed, .int .i64 n.straw, .int .i64 n.heather] 26)) := by
  refine ⟨((Below.refl _ w).alloc (Nat.le_refl _) _).alloc (by simp) _, ?_, ?_, by simp⟩
  · exact heap_old _ _ _ _ (heap_new _ _ _ rfl)
  · exact heap_new _ _ _ (by simp)
theorem SwF.later (h : SwF w A c pl dry n W) (hb : Below W.heap.size W W') : SwF w A c pl dry n W' := by
  have hz := h.size
  exact ⟨h.below.trans (hb.mono h.below.size), (hb.block _ (by omega)).trans h.farm, (hb.block _ (by omega)).trans h.need, Nat.le_trans hz hb.size⟩
theorem SwF.lf (h : SwF w A c pl dry n W) : LF w A c pl dry W := ⟨h.below, h.farm, by have := h.size; omega⟩

/-! Rows of fields and of chores. -/
theorem info88 : (Try.prog.info? 88).map (fun i => (i.zero, i.size, i.bytes)) = some (some (.agg #[.string ByteArray.empty, .int .i64 0, .int .i64 0, .int .i64 0, .int .i64 0, .int .i64 0, .int .i64 0, .int .i64 0, .int .i64 0]), 9, 80) := by kernel_rfl
theorem info64 : (Try.prog.info? 64).map (fun i => (i.zero, i.size, i.bytes)) = some (some (.agg #[.int .i64 0, .int .i64 0, .int .i64 0, .string ByteArray.empty, .string ByteArray.empty, .int .i64 0, .int .i64 0, .int .i64 0, .int .i64 0]), 9, 88) := by kernel_rfl
def NRow {α : Type} (enc : α → List Value) (e : TypeId) (W : World) (base : Nat) (v : Value) (l : List α) : Prop := W.ownsRow base e 9 v l.length (l.flatMap enc)
theorem NRow.nil {α : Type} (enc : α → List Value) (e : TypeId) (W : World) (base : Nat) : NRow enc e W base (.slice none 0 0) [] := World.ownsRow_nil _ _ _ _
theorem NRow.same {α : Type} {enc : α → List Value} {e : TypeId} {base : Nat} {v : Value} {l : List α} (h : NRow enc e W base v l) (hs : ∀ k, v.ownBlock = some k → w1.heap[k]? = W.heap[k]?) : NRow enc e w1 base v l := ownsRow_same h hs
theorem NRow.below {α : Type} {enc : α → List Value} {e : TypeId} {base : Nat} {v : Value} {l : List α} (h : NRow enc e W base v l) (hb : Below W.heap.size W w1) : NRow enc e w1 base v l := h.same fun k hk => hb.block k (h.lt k hk).2
theorem NRow.reads {α : Type} {enc : α → List Value} {e : TypeId} {base : Nat} {v : Value} {l : List α} (he : ∀ x, (enc x).length = 9) (h : NRow enc e W base v l) (hl : l.length ≤ 140737488351232) : ∃ A c, v = .slice A l.length c ∧ FlatRow enc 9 W A l := by
  rcases h.2 with ⟨rfl, h0⟩ | ⟨g, cap, cur, rfl, _⟩
  · have : l = [] := List.eq_nil_of_length_eq_zero h0
    subst this
    exact ⟨none, 0, rfl, by simp, by simp⟩
  · refine ⟨_, cap, rfl, hl, fun i x hx => ⟨_, rfl, fun j u hu => ?_⟩⟩
    exact h.cells (g := g) rfl _ _ (flat_get (sz := 9) he l i x j u hx hu)
theorem NRow.slice {α : Type} {enc : α → List Value} {e : TypeId} {base : Nat} {v : Value} {l : List α} (h : NRow enc e W base v l) : ∃ A c, v = .slice A l.length c := by
  rcases h.2 with ⟨rfl, h0⟩ | ⟨g, cap, cur, rfl, _⟩
  · exact ⟨none, 0, by rw [h0]⟩
  · exact ⟨_, cap, rfl⟩
theorem NRow.snoc {α : Type} {enc : α → List Value} {e : TypeId} {base : Nat} {v : Value} {l : List α} {p : α} (h : W.ownsRow base e 9 v (l.length + 1) (l.flatMap enc ++ enc p)) : NRow enc e W base v (l ++ [p]) := by
  unfold NRow
  rw [List.length_append, List.flatMap_append]
  simpa using h
/-- The farm in the other order, as far as it is made. -/
structure SwO (w : World) (A : Option Addr) (c : Nat) (pl : List Plot) (dry : Int) (n : Need) (bo : Nat) (v : Value) (l : List Plot) (W : World) : Prop where
  sw : SwF w A c pl dry n W
  o : W.heap[bo]? = some (.cells #[v, .int .i64 dry] 24 (0, 0))
  row : NRow encPlot 88 W (bo + 1) v l
variable {bo : Nat} {v v' : Value} {l : List Plot} {p : Plot} {o : Obj}
theorem SwO.lt (h : SwO w A c pl dry n bo v l W) : bo < W.heap.size := (Array.getElem?_eq_some_iff.1 h.o).1
theorem SwO.later (h : SwO w A c pl dry n bo v l W) (hb : Below W.heap.size W W') : SwO w A c pl dry n bo v l W' := ⟨h.sw.later hb, (hb.block _ h.lt).trans h.o, h.row.below hb⟩
theorem SwO.start (h : SwF w A c pl dry n W) : SwO w A c pl dry n W.heap.size (.slice none 0 0) [] (W.alloc (.cells #[.slice none 0 0, .int .i64 dry] 24)) :=
  ⟨h.later ((Below.refl _ _).alloc (Nat.le_refl _) _), heap_new _ _ _ rfl, NRow.nil _ _ _ _⟩
theorem SwO.push (h : SwO w A c pl dry n bo v l W) (hbo : w.heap.size + 2 ≤ bo) (hown : w1.ownsRow (bo + 1) 88 9 v' (l.length + 1) (l.flatMap encPlot ++ encPlot p)) (hgrow : (W.alloc o).grownBy w1 v.ownBlock) : SwO w A c pl dry n bo v' (l ++ [p]) (w1.setCell ⟨bo, 0, none⟩ v') := by
  have hz := h.sw.size
  have hlt := h.lt
  have hB : ∀ k, k < bo + 1 → w1.heap[k]? = W.heap[k]? := fun k hk => (hgrow.block k (by rw [World.size_alloc]; omega) (fun e => by have := (h.row.lt k e.symm).1; omega)).trans (Below.heap_alloc _ _ _ (by omega))
  have hS : ∀ k, k < bo → (w1.setCell ⟨bo, 0, none⟩ v').heap[k]? = W.heap[k]? := fun k hk => (Below.heap_setCell _ _ _ _ (by show k ≠ bo; omega)).trans (hB k (by omega))
  refine ⟨⟨?_, (hS _ (by omega)).trans h.sw.farm, (hS _ (by omega)).trans h.sw.need, ?_⟩, ?_, (NRow.snoc hown).same fun k hk => Below.heap_setCell _ _ _ _ (by have := (hown.lt k hk).1; show k ≠ bo; omega)⟩
  · exact ((h.sw.below.alloc h.sw.below.size _).grown hgrow (by rw [World.size_alloc]; omega) (fun k e => by have := (h.row.lt k e).1; omega)).setCell (p := ⟨bo, 0, none⟩) (by show w.heap.size ≤ bo; omega) _
  · rw [set_size]; have := hgrow.size; rw [World.size_alloc] at this; omega
  · exact set_cells ((hB bo (by omega)).trans h.o) v'
/-- The farm, the need, and what the other farm's variable holds. -/
structure SwQ (w : World) (A : Option Addr) (c : Nat) (pl : List Plot) (dry : Int) (n : Need) (bo : Nat) (v : Value) (W : World) : Prop where
  sw : SwF w A c pl dry n W
  o : W.heap[bo]? = some (.cells #[v, .int .i64 dry] 24 (0, 0))
theorem SwO.q (h : SwO w A c pl dry n bo v l W) : SwQ w A c pl dry n bo v W := ⟨h.sw, h.o⟩
theorem SwQ.later (h : SwQ w A c pl dry n bo v W) (hb : Below W.heap.size W W') : SwQ w A c pl dry n bo v W' := ⟨h.sw.later hb, (hb.block _ (Array.getElem?_eq_some_iff.1 h.o).1).trans h.o⟩
theorem SwO.grown (h : SwO w A c pl dry n bo v l W) (hbo : w.heap.size + 2 ≤ bo) (hgrow : (W.alloc o).grownBy w1 v.ownBlock) : SwQ w A c pl dry n bo v w1 := by
  have hz := h.sw.size
  have hlt := h.lt
  have hB : ∀ k, k < bo + 1 → w1.heap[k]? = W.heap[k]? := fun k hk => (hgrow.block k (by rw [World.size_alloc]; omega) (fun e => by have := (h.row.lt k e.symm).1; omega)).trans (Below.heap_alloc _ _ _ (by omega))
  refine ⟨⟨(h.sw.below.alloc h.sw.below.size _).grown hgrow (by rw [World.size_alloc]; omega) (fun k e => by have := (h.row.lt k e).1; omega), (hB _ (by omega)).trans h.sw.farm, (hB _ (by omega)).trans h.sw.need, ?_⟩, (hB bo (by omega)).trans h.o⟩
  have := hgrow.size; rw [World.size_alloc] at this; omega
theorem SwO.arow (h : SwO w A c pl dry n bo v l W) : (W.alloc o).ownsRow (bo + 1) 88 9 v l.length (l.flatMap encPlot) := (h.later ((Below.refl _ _).alloc (Nat.le_refl _) _)).row
theorem SwO.base (h : SwO w A c pl dry n bo v l W) : bo + 1 ≤ (W.alloc o).heap.size := by rw [World.size_alloc]; have := h.lt; omega
theorem new_nine (W : World) (p : Plot) : ∀ j u, (encPlot p)[j]? = some u → (W.alloc (pblock p)).cell? ((⟨W.heap.size, 0, none⟩ : Addr).add j) = some u := fun j u hu => by
  rw [lit_add]
  have := heap_new W (pblock p) _ rfl
  simp only [World.cell?, this]
  simpa [encPlot] using hu
abbrev cblock (a : Chore) : Obj := .cells (choreCells a) 64
theorem new_nineC (W : World) (p : Chore) : ∀ j u, (encChore p)[j]? = some u → (W.alloc (cblock p)).cell? ((⟨W.heap.size, 0, none⟩ : Addr).add j) = some u := fun j u hu => by
  rw [lit_add]
  have := heap_new W (cblock p) _ rfl
  simp only [World.cell?, this]
  simpa [encChore] using hu
theorem cells_chore {W : World} {b : Nat} {a : Chore} (h : W.heap[b]? = some (cblock a)) : W.cell? ⟨b, 0, none⟩ = some (.int .i64 a.kind) ∧ W.cell? ⟨b, 1, none⟩ = some (.int .i64 a.plot) ∧ W.cell? ⟨b, 2, none⟩ = some (.int .i64 a.loads) ∧ W.cell? ⟨b, 3, none⟩ = some (.string a.name) ∧ W.cell? ⟨b, 4, none⟩ = some (.string a.other) ∧
    W.cell? ⟨b, 5, none⟩ = some (.int .i64 a.days) ∧ W.cell? ⟨b, 6, none⟩ = some (.int .i64 a.per) ∧ W.cell? ⟨b, 7, none⟩ = some (.int .i64 a.rain.lo) ∧ W.cell? ⟨b, 8, none⟩ = some (.int .i64 a.rain.hi) := by
  refine ⟨?_, ?_, ?_, ?_, ?_, ?_, ?_, ?_, ?_⟩ <;> simp [World.cell?, h]
/-- Both farms. -/
structure SwM (w : World) (A : Option Addr) (c : Nat) (pl : List Plot) (dry : Int) (n : Need) (bo : Nat) (Ao : Option Addr) (co : Nat) (W : World) : Prop where
  sw : SwF w A c pl dry n W
  o : W.heap[bo]? = some (.cells #[.slice Ao pl.length co, .int .i64 dry] 24 (0, 0))
  rd : RdPlots W Ao pl.reverse
variable {Ao : Option Addr} {co : Nat}
theorem SwM.later (h : SwM w A c pl dry n bo Ao co W) (hb : Below W.heap.size W W') : SwM w A c pl dry n bo Ao co W' := ⟨h.sw.later hb, (hb.block _ (Array.getElem?_eq_some_iff.1 h.o).1).trans h.o, h.rd.below hb⟩
theorem SwO.full (h : SwO w A c pl dry n bo v pl.reverse W) (hn : ∀ p ∈ pl, p.name.size ≤ 140737488351232) (hl : pl.length ≤ 12) : ∃ Ao co, v = .slice Ao pl.length co ∧ SwM w A c pl dry n bo Ao co W := by
  obtain ⟨Ao, co, e, hr⟩ := h.row.reads (fun _ => rfl) (by rw [List.length_reverse]; omega)
  rw [List.length_reverse] at e
  subst e
  exact ⟨Ao, co, rfl, h.sw, h.o, hr, fun p hp => hn p (List.mem_reverse.1 hp)⟩
/-- The chores on the farm in the other order, as far as they are made; M: what was laid ahead of them. -/
structure SwB (M : World) (v : Value) (l : List Chore) (W : World) : Prop where
  below : Below M.heap.size M W
  row : NRow encChore 64 W M.heap.size v l
variable {M : World} {m : List Chore} {a : Chore}
theorem SwB.later (h : SwB M v m W) (hb : Below W.heap.size W W') : SwB M v m W' := ⟨h.below.trans (hb.mono h.below.size), h.row.below hb⟩
theorem SwB.start : SwB M (.slice none 0 0) [] M := ⟨Below.refl _ _, NRow.nil _ _ _ _⟩
theorem SwB.push (h : SwB M v m W) (hown : w1.ownsRow M.heap.size 64 9 v' (m.length + 1) (m.flatMap encChore ++ encChore a)) (hgrow : (W.alloc o).grownBy w1 v.ownBlock) : SwB M v' (m ++ [a]) w1 :=
  ⟨(h.below.alloc h.below.size _).grown hgrow (by rw [World.size_alloc]; have := h.below.size; omega) (fun k e => (h.row.lt k e).1), NRow.snoc hown⟩
end
theorem mirC_well {n : Nat} {a : Chore} (h : WellC a) : WellC (mirC n a) := by
  unfold mirC
  split
  · exact h
  · exact h
/-- What Run hands back, told of a run that is the same. -/
theorem RunOut.same {r r' : Store × Int × Int} {w : World} {e : Ending} {w' : World} (h : RunOut r w e w') (hs : Same3 r r') : RunOut r' w e w' := by
  obtain ⟨t, e1, h1, h2, h3, h4⟩ := h
  exact ⟨t, by rw [e1, hs.1], h1.trans hs.2, h2, h3, h4⟩
end Go.Proofs.Ytpgkhlpepckfgaa
end
