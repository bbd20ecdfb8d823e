/-
  Append at an operation of a region that draws its order. No program is named here. A store without a heap, as the specification has it: walked. A store with a heap's parts changed, as the specification has it: walked. A store with lists of its own, as the specification has it: walked. What all fields gave is what there is. No program is walked here. Chores that are not the same.
-/
import Derived.Test.YtpgkhlpepckfgaaXa05
import Derived.Test.YtpgkhlpepckfgaaXa17
import Derived.Test.YtpgkhlpepckfgaaXa22
import Derived.Test.YtpgkhlpepckfgaaXa26
import Derived.Test.YtpgkhlpepckfgaaXa28
set_option linter.all false
set_option linter.unusedVariables false
set_option linter.unusedSimpArgs false
section
namespace Go.Proofs.Ytpgkhlpepckfgaa
open Go.RowKit
section
variable {P : Program} (w : World)
theorem op_app {o : Oper} {a : Act} {K : Act → World → Prop} {Q : Exit → Act → World → Prop} (s x : Operand) (t : TypeId)
    (ho : o.op = .call { callee := .builtin .append, args := #[s, x], argTypes := #[t, t] })
    (base : Nat) (e : TypeId) (size bytes : Nat) (ht : P.underlying t = some (.slice e)) {z : Value} (hinfo : (P.info? e).map (fun i => (i.zero, i.size, i.bytes)) = some (some z, size, bytes)) (hzs : z.cells.size = size) (hsz : 0 < size)
    (v : Value) (n : Nat) (xs : List Value) (hs : a.eval s = v) (hown : w.ownsRow base e size v n xs)
    (ad : Addr) (m c : Nat) (news : List Value) (hx : a.eval x = .slice (some ad) m c) (hl : news.length = m * size) (hnews : ∀ j u, news[j]? = some u → w.cell? (ad.add j) = some u) (h1 : ∀ u ∈ news, u.oneCell' = true)
    (h63 : n + m ≤ maxLen) (hbytes : (n + m) * bytes ≤ 140737488355328) (hbase : base ≤ w.heap.size)
    (h : ∀ v' w', w'.ownsRow base e size v' (n + m) (xs ++ news) → w.grownBy w' v.ownBlock → (∀ k, v'.ownBlock = some k → v.ownBlock = some k ∨ w.heap.size ≤ k) → K (a.put o.dst v') w') : o.wp P a w K Q := by
  obtain ⟨i, hi, hzz⟩ := Option.map_eq_some_iff.1 hinfo
  simp only [Prod.mk.injEq] at hzz
  obtain ⟨hz, hsize, hby⟩ := hzz
  obtain ⟨v', w', hr, h2, h3, h4⟩ := run_append_near (P := P) w base t o.type e i z size bytes ht hi hz hsize hby hzs hsz v n xs hown ad m c news hl hnews h1 h63 hbytes hbase
  unfold Oper.wp execOp
  simp only [ho, resolve, invoke, builtin, Sem.run_bind, Sem.run_pure, Result.andThen_ok, List.map_toArray, List.map_cons, List.map_nil, hs, hx, hr]
  exact h v' w' h2 h3 h4
end
end Go.Proofs.Ytpgkhlpepckfgaa
end
section
namespace Go.Proofs.Ytpgkhlpepckfgaa
open Go.RowKit Go.Lib

/-- The blocks in which a store lies. -/
def Lies (s : Store) (k : Nat) : Prop := blk s.la = some k ∨ blk s.ga = some k ∨ blk s.ha = some k ∨ Reads s k
theorem Rows.far {B b : Nat} {s : Store} {W : World} (h : Rows B (some b) s W) {k : Nat} (hk : Lies s k) : k ≠ b := by
  rintro rfl
  rcases hk with e | e | e | e
  · exact (h.a1 k e).2.2 rfl
  · exact (h.a2 k e).2 rfl
  · exact h.a3 k e rfl
  · exact (h.off k e).2.2.2 rfl
theorem Rows.lies {B : Nat} {x : Option Nat} {s : Store} {W : World} (h : Rows B x s W) {k : Nat} (hk : Lies s k) : k < W.heap.size := by
  rcases hk with e | e | e | e
  · exact (h.lastLt e).2
  · exact (h.givenLt e).2
  · exact (h.heapsLt e).2
  · exact h.readsLt e
theorem Rows.besides {B b : Nat} {s : Store} {W : World} (h : Rows B none s W) (hb : b < W.heap.size) (hk : ∀ k, Lies s k → k ≠ b) : Rows B (some b) s W :=
  ⟨h.last, h.given, h.heaps, h.used, h.waste, h.parts, h.small, fun k e => ⟨(h.a1 k e).1, (h.a1 k e).2.1, fun e1 => hk k (.inl e) (by cases e1; rfl)⟩, fun k e => ⟨(h.a2 k e).1, fun e1 => hk k (.inr (.inl e)) (by cases e1; rfl)⟩,
    fun k e e1 => hk k (.inr (.inr (.inl e))) (by cases e1; rfl), fun k e => ⟨(h.off k e).1, (h.off k e).2.1, (h.off k e).2.2.1, fun e1 => hk k (.inr (.inr (.inr e))) (by cases e1; rfl)⟩, fun k e => by cases e; exact hb⟩
/-- The blocks of a store's own rows. -/
def Owns (s : Store) (k : Nat) : Prop := blk s.la = some k ∨ blk s.ga = some k ∨ blk s.ha = some k
/-- What a function that hands back a store does to it: r, in blocks of s, in those of X or in new ones; all below N stays as it was. -/
def WithOut (B N : Nat) (X : Nat → Prop) (s r : Store) (w : World) (e : Ending) (w' : World) : Prop := ∃ t, e = .returned (storeVal t) ∧ SameC t r ∧ Rows B none t w' ∧ Below N w w' ∧ (∀ k, Lies t k → Lies s k ∨ X k ∨ w.heap.size ≤ k) ∧ (∀ k, k < w.heap.size → blk s.ha ≠ some k → w'.heap[k]? = w.heap[k]?) ∧ ∀ k, Owns t k → Owns s k ∨ w.heap.size ≤ k
/-- A block of the world ahead of the call stays apart. -/
theorem far_of {s t : Store} {N b : Nat} {X : Nat → Prop} (hf : ∀ k, Lies t k → Lies s k ∨ X k ∨ N ≤ k) (hs : ∀ k, Lies s k → k ≠ b) (hx : ∀ k, X k → k ≠ b) (hb : b < N) : ∀ k, Lies t k → k ≠ b := fun k hk => by
  rcases hf k hk with h | h | h
  · exact hs k h
  · exact hx k h
  · omega
/-- The heaps up to number i, without number k. -/
def dropK (l : List Heap) (k i : Nat) : List Heap := (l.take i).eraseIdx k
theorem dropK_zero (l : List Heap) (k : Nat) : dropK l k 0 = [] := by simp [dropK]
theorem dropK_end (l : List Heap) (k : Nat) : dropK l k l.length = l.eraseIdx k := by simp [dropK]
theorem dropK_same (l : List Heap) (k : Nat) (hk : k < l.length) : dropK l k (k + 1) = dropK l k k := by
  unfold dropK
  have h1 : (l.take k).length = k := by simp; omega
  rw [List.take_succ_eq_append_getElem hk, List.eraseIdx_append_of_length_le (by omega), h1, Nat.sub_self, List.eraseIdx_of_length_le (l := l.take k) (by omega)]
  simp
theorem dropK_next (l : List Heap) (k i : Nat) (hi : i < l.length) (hne : i ≠ k) : dropK l k (i + 1) = dropK l k i ++ [l[i]] := by
  unfold dropK
  rw [List.take_succ_eq_append_getElem hi]
  by_cases h : k < i
  · rw [List.eraseIdx_append_of_lt_length (by simp; omega)]
  · rw [List.eraseIdx_of_length_le (by simp; omega), List.eraseIdx_of_length_le (by simp; omega)]

/-- The heaps under way: v is the row, n its length. -/
structure WoI (w : World) (s : Store) (k j : Nat) (v : Value) (n : Nat) (W : World) : Prop where
  below : Below w.heap.size w W
  box : W.heap[w.heap.size]? = some (.cells #[.int .i64 s.year, .slice s.la s.last.length s.lc, .slice s.ga s.given.length s.gc, v, .slice s.ua s.used.length s.uc, .slice s.wa s.waste.length s.wc] 43 (0, 0))
  out : W.heap[w.heap.size + 1]? = some (.cells #[.int .i64 0, .slice none 0 0, .slice none 0 0, .slice none 0 0, .slice none 0 0, .slice none 0 0] 43 (0, 0))
  row : W.ownsRow (w.heap.size + 2) 77 7 v n ((dropK s.heaps k j).flatMap encHeap)
  len : n = (dropK s.heaps k j).length
  size : w.heap.size + 2 ≤ W.heap.size
section
variable {w : World} {s : Store} {k j : Nat} {v : Value} {n : Nat} {W W' : World}
theorem WoI.start : WoI w s k 0 (.slice none 0 0) 0 ((w.alloc (.cells #[.int .i64 s.year, .slice s.la s.last.length s.lc, .slice s.ga s.given.length s.gc, .slice none 0 0, .slice s.ua s.used.length s.uc, .slice s.wa s.waste.length s.wc] 43)).alloc (.cells #[.int .i64 0, .slice none 0 0, .slice none 0 0, .slice none 0 0, .slice none 0 0, .slice none 0 0] 43)) := by
  refine ⟨((Below.refl _ w).alloc (Nat.le_refl _) _).alloc (by simp) _, heap_old _ _ _ _ (heap_new _ _ _ rfl), heap_new _ _ _ (by simp), ?_, by rw [dropK_zero]; rfl, by simp⟩
  rw [dropK_zero]
  exact World.ownsRow_nil _ _ _ _
theorem WoI.slice (h : WoI w s k j v n W) : ∃ A c, v = .slice A n c := by
  rcases h.row.2 with ⟨rfl, h0⟩ | ⟨g, cap, cur, rfl, _⟩
  · exact ⟨none, 0, by rw [h0]⟩
  · exact ⟨_, _, rfl⟩
theorem WoI.skip (h : WoI w s j j v n W) (hj : j < s.heaps.length) : WoI w s j (j + 1) v n W :=
  ⟨h.below, h.box, h.out, by rw [dropK_same _ _ hj]; exact h.row, by rw [dropK_same _ _ hj]; exact h.len, h.size⟩
theorem WoI.le (h : WoI w s k j v n W) : n ≤ s.heaps.length := by
  rw [h.len]
  unfold dropK
  refine Nat.le_trans (List.length_eraseIdx_le _ _) ?_
  simp; omega
def WoS (w : World) (s : Store) (v : Value) (W : World) : Prop := Below w.heap.size w W ∧ W.heap[w.heap.size]? = some (.cells #[.int .i64 s.year, .slice s.la s.last.length s.lc, .slice s.ga s.given.length s.gc, v, .slice s.ua s.used.length s.uc, .slice s.wa s.waste.length s.wc] 43 (0, 0))
theorem WoI.keeps (h : WoI w s k j v n W) : WoS w s v W := ⟨h.below, h.box⟩
theorem WoI.grown {w1 : World} (h : WoI w s k j v n W) (hg : W.grownBy w1 v.ownBlock) : WoS w s v w1 := by
  have hz := h.size
  refine ⟨h.below.grown hg h.below.size (fun q e => by have := (h.row.lt q e).1; omega), (hg.block _ (by omega) (fun e => ?_)).trans h.box⟩
  have := (h.row.lt _ e.symm).1; omega
theorem WoI.push {w1 : World} {v' : Value} {H : Heap} (h : WoI w s k j v n W) (hj : j < s.heaps.length) (hH : H = s.heaps[j]) (hjk : ¬ j = k) (hown : w1.ownsRow (w.heap.size + 2) 77 7 v' (n + 1) ((dropK s.heaps k j).flatMap encHeap ++ encHeap H)) (hg : W.grownBy w1 v.ownBlock) :
    WoI w s k (j + 1) v' (n + 1) (w1.setCell ⟨w.heap.size, 3, none⟩ v') := by
  have hz := h.size
  have hg1 := h.grown hg
  have hn := dropK_next s.heaps k j hj hjk
  have hsz := hg.size
  refine ⟨hg1.1.setCell (p := ⟨w.heap.size, 3, none⟩) (Nat.le_refl _) _, set_cells (o := 3) hg1.2 v', (Below.heap_setCell _ _ _ _ (by simp)).trans ((hg.block _ (by omega) (fun e => ?_)).trans h.out), ?_, by rw [hn, h.len]; simp, by rw [set_size]; omega⟩
  · have := (h.row.lt _ e.symm).1; omega
  · rw [hn, List.flatMap_append, ← hH]
    refine ownsRow_same (w := w1) (by simpa using hown) fun q e => Below.heap_setCell _ _ _ _ ?_
    have := (hown.lt q e).1
    show q ≠ w.heap.size
    omega
theorem WoI.later (h : WoI w s k j v n W) (hb : Below W.heap.size W W') : WoI w s k j v n W' := by
  have hz := h.size
  exact ⟨h.below.trans (hb.mono h.below.size), (hb.block _ (by omega)).trans h.box, (hb.block _ (by omega)).trans h.out, ownsRow_same h.row (fun k e => hb.block k (h.row.lt k e).2), h.len, Nat.le_trans hz hb.size⟩
end

theorem set6_cells {W : World} {b : Nat} {a0 a1 a2 a3 a4 a5 : Value} {t : TypeId} (v0 v1 v2 v3 v4 v5 : Value) (h : W.heap[b]? = some (.cells #[a0, a1, a2, a3, a4, a5] t (0, 0))) :
    ((((((W.setCell ⟨b, 0, none⟩ v0).setCell ⟨b, 1, none⟩ v1).setCell ⟨b, 2, none⟩ v2).setCell ⟨b, 3, none⟩ v3).setCell ⟨b, 4, none⟩ v4).setCell ⟨b, 5, none⟩ v5).heap[b]? = some (.cells #[v0, v1, v2, v3, v4, v5] t (0, 0)) ∧
    Below b W ((((((W.setCell ⟨b, 0, none⟩ v0).setCell ⟨b, 1, none⟩ v1).setCell ⟨b, 2, none⟩ v2).setCell ⟨b, 3, none⟩ v3).setCell ⟨b, 4, none⟩ v4).setCell ⟨b, 5, none⟩ v5) := by
  have h0 := set_cells (o := 0) h v0
  have h1 := set_cells (o := 1) h0 v1
  have h2 := set_cells (o := 2) h1 v2
  have h3 := set_cells (o := 3) h2 v3
  have h4 := set_cells (o := 4) h3 v4
  have h5 := set_cells (o := 5) h4 v5
  exact ⟨h5, ((((((Below.refl b W).setCell (p := ⟨b, 0, none⟩) (Nat.le_refl _) _).setCell (p := ⟨b, 1, none⟩) (Nat.le_refl _) _).setCell (p := ⟨b, 2, none⟩) (Nat.le_refl _) _).setCell (p := ⟨b, 3, none⟩) (Nat.le_refl _) _).setCell (p := ⟨b, 4, none⟩) (Nat.le_refl _) _).setCell (p := ⟨b, 5, none⟩) (Nat.le_refl _) _⟩
theorem set6w_other {W : World} {b k : Nat} (v0 v1 v2 v3 v4 v5 : Value) (hk : k ≠ b) :
    ((((((W.setCell ⟨b, 0, none⟩ v0).setCell ⟨b, 1, none⟩ v1).setCell ⟨b, 2, none⟩ v2).setCell ⟨b, 3, none⟩ v3).setCell ⟨b, 4, none⟩ v4).setCell ⟨b, 5, none⟩ v5).heap[k]? = W.heap[k]? := by
  rw [Below.heap_setCell _ _ _ _ hk, Below.heap_setCell _ _ _ _ hk, Below.heap_setCell _ _ _ _ hk, Below.heap_setCell _ _ _ _ hk, Below.heap_setCell _ _ _ _ hk, Below.heap_setCell _ _ _ _ hk]
/-- The result's block is written: the store stays. -/
theorem Rows.put6 {B b : Nat} {s : Store} {W : World} (h : Rows B none s W) (hb : b < W.heap.size) (hk : ∀ k, Lies s k → k ≠ b) (v0 v1 v2 v3 v4 v5 : Value) :
    Rows B none s ((((((W.setCell ⟨b, 0, none⟩ v0).setCell ⟨b, 1, none⟩ v1).setCell ⟨b, 2, none⟩ v2).setCell ⟨b, 3, none⟩ v3).setCell ⟨b, 4, none⟩ v4).setCell ⟨b, 5, none⟩ v5) :=
  ((h.besides hb hk).kept (by rw [set6_size]; exact Nat.le_refl _) fun k _ hne => set6_other _ _ _ _ _ _ (fun e => hne (by rw [e]))).loose (Nat.le_refl _)
theorem new_heapD (W : World) (H : Heap) : ∀ j u, (encHeap H)[j]? = some u → (W.alloc (.cells (hcells H) 77)).drew.cell? ((⟨W.heap.size, 0, none⟩ : Addr).add j) = some u := fun j u hu => by
  rw [lit_add]
  have : (W.alloc (.cells (hcells H) 77)).drew.heap[W.heap.size]? = some (.cells (hcells H) 77 (0, 0)) := heap_new W _ _ rfl
  simp only [World.cell?, this]
  simpa [encHeap] using hu
set_option maxHeartbeats 2000000 in
set_option maxRecDepth 100000 in
theorem without_any (B : Nat) (s : Store) (k : Nat) (w : World) (h : Rows B none s w) (hB : B ≤ w.heap.size) (hk : k < s.heaps.length) :
    Calls Try.prog 115 #[storeVal s, .int .i64 k] w (WithOut B w.heap.size (fun _ => False) s (keepP s k []) w) := by
  have hl := h.small.2.2
  have hrd := h.heapsRd
  have hz0 : Hid (WoI w s k 0 (.slice none 0 0) 0 ((w.alloc (.cells #[.int .i64 s.year, .slice s.la s.last.length s.lc, .slice s.ga s.given.length s.gc, .slice none 0 0, .slice s.ua s.used.length s.uc, .slice s.wa s.waste.length s.wc] 43)).alloc (.cells #[.int .i64 0, .slice none 0 0, .slice none 0 0, .slice none 0 0, .slice none 0 0, .slice none 0 0] 43))) := WoI.start
  go_enter Try.func115, Try.ntmps115
  go_upto_region 4 with fail
  go_loopw [6] (fun i wr => ∃ (j : Nat) (v : Value) (n : Nat), i = .int .i64 j ∧ j ≤ s.heaps.length ∧ Hid (WoI w s k j v n wr)) (fun i _ => s.heaps.length - (intOf i).toNat)
  case atStart => exact ⟨0, _, _, rfl, Nat.zero_le _, hz0.out⟩
  case round =>
    obtain ⟨j, v, n, rfl, hj, hI⟩ := hrel
    clear hz0
    by_cases hlt : j < s.heaps.length
    · by_cases hjk : j = k
      · have hjb : (((j : Nat) : Int) != ((k : Nat) : Int)) = false := by rw [hjk]; simp
        go_wp2_with fail
        subst hjk
        exact ⟨⟨j + 1, v, n, by go_num, by omega, by unfold Hid; exact hI.out.skip hlt⟩, by simp only [intOf]; omega⟩
      · have hjb : (((j : Nat) : Int) != ((k : Nat) : Int)) = true := by rw [bne_iff_ne]; omega
        obtain ⟨ad, hA, _⟩ := FlatRow.at7 hrd.1 hlt rfl
        obtain ⟨A, c, rfl⟩ := hI.out.slice
        obtain ⟨H, hH⟩ : ∃ H, H = s.heaps[j] := ⟨_, rfl⟩
        have hS : Hid (∀ W, WoS w s (.slice A n c) W → (W.cell? ⟨w.heap.size, 0, none⟩ = some (.int .i64 s.year) ∧ W.cell? ⟨w.heap.size, 1, none⟩ = some (.slice s.la s.last.length s.lc) ∧ W.cell? ⟨w.heap.size, 2, none⟩ = some (.slice s.ga s.given.length s.gc) ∧ W.cell? ⟨w.heap.size, 3, none⟩ = some (.slice A n c) ∧ W.cell? ⟨w.heap.size, 4, none⟩ = some (.slice s.ua s.used.length s.uc) ∧ W.cell? ⟨w.heap.size, 5, none⟩ = some (.slice s.wa s.waste.length s.wc)) ∧
            W.cell? (ad.add (j * 7)) = some (.string H.name) ∧ W.cell? ⟨(ad.add (j * 7)).block, (ad.add (j * 7)).off + 1, none⟩ = some (.int .i64 H.crop) ∧ W.cell? ⟨(ad.add (j * 7)).block, (ad.add (j * 7)).off + 2, none⟩ = some (.int .i64 H.stage) ∧ W.cell? ⟨(ad.add (j * 7)).block, (ad.add (j * 7)).off + 3, none⟩ = some (.slice H.pa H.parts.length H.pc) ∧
            W.cell? ⟨(ad.add (j * 7)).block, (ad.add (j * 7)).off + 4, none⟩ = some (.int .i64 H.per) ∧ W.cell? ⟨(ad.add (j * 7)).block, (ad.add (j * 7)).off + 5, none⟩ = some (.int .i64 H.wet.lo) ∧ W.cell? ⟨(ad.add (j * 7)).block, (ad.add (j * 7)).off + 6, none⟩ = some (.int .i64 H.wet.hi)) := fun W hW => by
          obtain ⟨ad', hA', y⟩ := FlatRow.at7 (hrd.below hW.1).1 hlt rfl
          rw [hA] at hA'
          cases hA'
          rw [← hH] at y
          exact ⟨cells6 hW.2, y⟩
        rw [hA]
        have hId : Hid (WoI w s k j (.slice A n c) n wr.drew) := hI.out.later (below_drewN_ wr 1)
        replace hH := Lib.hid hH
        go_wp2_with fail
        refine wp_region_tree (fun W => WoS w s (.slice A n c) W) (.pure 0 (.read 1 (.pure 2 (.pure 3 (.pure 4 (.read 5 (.one 6 (.one 7 (.pure 8 (.one 9 .done)))))))))) [9] (by kernel_rfl) (by kernel_rfl) hId.out.keeps ?_
        refine wpTree_pure (v := ?_) rfl (by rfl) ?_ (fun _ _ _ h => h) ?_
        rotate_left
        focus (intro w'; (try simp only [List.getElem_toArray, List.getElem_cons_zero, List.getElem_cons_succ]); go_simp; try with_reducible rfl)
        simp only [List.getElem_toArray, List.getElem_cons_zero, List.getElem_cons_succ, Act.put, List.setIfInBounds_toArray, List.set_cons_zero, List.set_cons_succ]
        refine wpTree_take (v := ?_) rfl (by rfl) ?_ (fun _ _ _ h => h) ?_
        rotate_left
        focus (intro w' hSw; obtain ⟨⟨x0, x1, x2, x3, x4, x5⟩, y0, y1, y2, y3, y4, y5, y6⟩ := hS.out _ hSw; clear hSw; (try simp only [List.getElem_toArray, List.getElem_cons_zero, List.getElem_cons_succ]); go_simp; try with_reducible rfl)
        simp only [List.getElem_toArray, List.getElem_cons_zero, List.getElem_cons_succ, Act.put, List.setIfInBounds_toArray, List.set_cons_zero, List.set_cons_succ]
        refine wpTree_pure (v := ?_) rfl (by rfl) ?_ (fun _ _ _ h => h) ?_
        rotate_left
        focus (intro w'; (try simp only [List.getElem_toArray, List.getElem_cons_zero, List.getElem_cons_succ]); go_simp; try with_reducible rfl)
        simp only [List.getElem_toArray, List.getElem_cons_zero, List.getElem_cons_succ, Act.put, List.setIfInBounds_toArray, List.set_cons_zero, List.set_cons_succ]
        refine wpTree_pure (v := ?_) rfl (by rfl) ?_ (fun _ _ _ h => h) ?_
        rotate_left
        focus (intro w'; (try simp only [List.getElem_toArray, List.getElem_cons_zero, List.getElem_cons_succ]); go_simp; try with_reducible rfl)
        simp only [List.getElem_toArray, List.getElem_cons_zero, List.getElem_cons_succ, Act.put, List.setIfInBounds_toArray, List.set_cons_zero, List.set_cons_succ]
        refine wpTree_pure (v := ?_) rfl (by rfl) ?_ (fun _ _ _ h => h) ?_
        rotate_left
        focus (intro w'; (try simp only [List.getElem_toArray, List.getElem_cons_zero, List.getElem_cons_succ]); go_simp; try with_reducible rfl)
        simp only [List.getElem_toArray, List.getElem_cons_zero, List.getElem_cons_succ, Act.put, List.setIfInBounds_toArray, List.set_cons_zero, List.set_cons_succ]
        refine wpTree_take (v := ?_) rfl (by rfl) ?_ (fun _ _ _ h => h) ?_
        rotate_left
        focus (intro w' hSw; obtain ⟨⟨x0, x1, x2, x3, x4, x5⟩, y0, y1, y2, y3, y4, y5, y6⟩ := hS.out _ hSw; clear hSw; (try simp only [List.getElem_toArray, List.getElem_cons_zero, List.getElem_cons_succ]); go_simp; try with_reducible rfl)
        simp only [List.getElem_toArray, List.getElem_cons_zero, List.getElem_cons_succ, Act.put, List.setIfInBounds_toArray, List.set_cons_zero, List.set_cons_succ]
        refine wpTree_do rfl (by rfl) ?_
        (try simp only [List.getElem_toArray, List.getElem_cons_zero, List.getElem_cons_succ])
        go_simp
        obtain ⟨wa, hwa⟩ : ∃ x, x = (wr.alloc (.cells (hcells H) 77)).drew := ⟨_, rfl⟩
        have hba : Below wr.heap.size wr wa := by rw [hwa]; exact ((Below.refl _ wr).alloc (Nat.le_refl _) _).drew
        have hIa := hI.out.later hba
        have hnew : Hid (∀ q u, (encHeap H)[q]? = some u → wa.cell? ((⟨wr.heap.size, 0, none⟩ : Addr).add q) = some u) := fun q u hu => by rw [hwa]; exact new_heapD wr H q u hu
        have hone : Hid (∀ u ∈ encHeap H, u.oneCell' = true) := fun u hu => heaps_one [H] u (by simpa using hu)
        have hnl : n ≤ s.heaps.length := hI.out.le
        have h63 : Hid (n + 1 ≤ maxLen) := by unfold Hid maxLen; omega
        have hby : Hid ((n + 1) * 80 ≤ 140737488355328) := by unfold Hid; omega
        have hbase : Hid (w.heap.size + 2 ≤ wa.heap.size) := hIa.size
        rw [← hwa]
        refine ⟨fun _ => hIa.keeps, ?_⟩
        replace hwa := Lib.hid hwa
        replace hIa := Lib.hid hIa
        refine wpTree_do rfl (by rfl) ?_
        (try simp only [List.getElem_toArray, List.getElem_cons_zero, List.getElem_cons_succ])
        refine op_app _ _ _ 40 rfl (w.heap.size + 2) 77 7 80 Try.underlying40 info77 rfl (by decide) _ n ((dropK s.heaps k j).flatMap encHeap) rfl hIa.out.row ⟨wr.heap.size, 0, none⟩ 1 1 (encHeap H) rfl rfl hnew.out hone.out h63.out hby.out hbase.out ?_
        intro v' w1 hown hgrow hnear
        have hI1 := Lib.hid (hIa.out.push hlt hH.out hjk hown hgrow)
        have hS1 := Lib.hid (hIa.out.grown hgrow)
        clear hown hgrow hnear
        obtain ⟨A', c', rfl⟩ := hI1.out.slice
        refine ⟨fun _ _ => hS1.out, ?_⟩
        simp only [Act.put, List.setIfInBounds_toArray, List.set_cons_zero, List.set_cons_succ]
        refine wpTree_pure (v := ?_) rfl (by rfl) ?_ (fun _ _ _ h => h) ?_
        rotate_left
        focus (intro w'; (try simp only [List.getElem_toArray, List.getElem_cons_zero, List.getElem_cons_succ]); go_simp; try with_reducible rfl)
        simp only [List.getElem_toArray, List.getElem_cons_zero, List.getElem_cons_succ, Act.put, List.setIfInBounds_toArray, List.set_cons_zero, List.set_cons_succ]
        have k3 := (cells6 hS1.out.2).2.2.2.1
        have f3 : w1.frozen? ⟨w.heap.size, 3, none⟩ = false := frozen_of_row w1 _ 3 _ _ hS1.out.2
        refine wpTree_do rfl (by rfl) ?_
        (try simp only [List.getElem_toArray, List.getElem_cons_zero, List.getElem_cons_succ])
        go_simp
        unfold wpTree
        go_wp2_with fail
        exact ⟨⟨j + 1, _, n + 1, by go_num, by omega, hI1⟩, by simp only [intOf]; omega⟩
    · obtain rfl : j = s.heaps.length := by omega
      obtain ⟨A, c, rfl⟩ := hI.out.slice
      obtain ⟨k0, k1, k2, k3, k4, k5⟩ := cells6 hI.out.box
      obtain ⟨d0, d1, d2, d3, d4, d5⟩ := cells6 hI.out.out
      have hfz : ∀ j, wr.frozen? ⟨w.heap.size + 1, j, none⟩ = false := fun j => frozen_of_row wr _ j _ _ hI.out.out
      have f0 := hfz 0
      have f1 := hfz 1
      have f2 := hfz 2
      have f3 := hfz 3
      have f4 := hfz 4
      have f5 := hfz 5
      clear hfz
      go_wp2_with fail
      obtain ⟨q6, hs6⟩ := set6_cells (.int .i64 s.year) (.slice s.la s.last.length s.lc) (.slice s.ga s.given.length s.gc) (.slice A n c) (.slice s.ua s.used.length s.uc) (.slice s.wa s.waste.length s.wc) hI.out.out
      refine bodyPost_ret (results_cell_row rfl _ _ (w.heap.size + 1) 43 _ (0, 0) _ rfl q6 Try.underlying43 rfl (by kernel_rfl)) rfl ?_
      have hlen := hI.out.len
      rw [dropK_end] at hlen
      subst hlen
      have hbf := hI.out.below.trans (hs6.mono (Nat.le_succ _))
      refine ⟨{ s with heaps := s.heaps.eraseIdx k, ha := A, hc := c }, rfl, ⟨rfl, rfl, rfl, rfl, rfl, rfl⟩, ?_, hbf, ?_, fun q hq _ => hbf.block q hq, fun q hq => ?_⟩
      · have hrow := hI.out.row
        rw [dropK_end] at hrow
        exact h.heapsTo (l := s.heaps.eraseIdx k) (A := A) (c := c) hbf.size (fun q hq _ => hbf.block q hq)
          (ownsRow_raise (ownsRow_same hrow fun q e => set6w_other _ _ _ _ _ _ (by have := (hI.out.row.lt q e).1; omega)) (by omega)) (fun q e => .inr (by have := (hI.out.row.lt q (by rw [ownBlock_slice]; exact e)).1; omega))
          (fun g hg => h.old (List.mem_of_mem_eraseIdx hg)) (Nat.le_trans (List.length_eraseIdx_le _ _) hl)
      · intro q hq
        rcases hq with e | e | e | e | e | ⟨g, hg, h1, h2⟩
        · exact .inl (.inl e)
        · exact .inl (.inr (.inl e))
        · exact .inr (.inr (by have := (hI.out.row.lt q (by rw [ownBlock_slice]; exact e)).1; omega))
        · exact .inl (.inr (.inr (.inr (.inl e))))
        · exact .inl (.inr (.inr (.inr (.inr (.inl e)))))
        · exact .inl (.inr (.inr (.inr (.inr (.inr ⟨g, List.mem_of_mem_eraseIdx hg, h1, h2⟩)))))
      · rcases hq with e | e | e
        · exact .inl (.inl e)
        · exact .inl (.inr (.inl e))
        · exact .inr (by have := (hI.out.row.lt q (by rw [ownBlock_slice]; exact e)).1; omega)
end Go.Proofs.Ytpgkhlpepckfgaa
end
section
namespace Go.Proofs.Ytpgkhlpepckfgaa
open Go.RowKit Go.Lib

theorem set_same {W W' : World} {k : Nat} (a : Addr) (v : Value) (h : W.heap[k]? = W'.heap[k]?) : (W.setCell a v).heap[k]? = (W'.setCell a v).heap[k]? := by
  simp only [World.setCell, Array.getElem?_modify, h]
set_option maxHeartbeats 2000000 in
set_option maxRecDepth 100000 in
theorem with_any (B : Nat) (s : Store) (k : Nat) (P : Option Addr) (pc : Nat) (l : List Portion) (w : World) (h : Rows B none s w) (hB : B ≤ w.heap.size) (hk : k < s.heaps.length) (hr : RdParts w P l) (ho : ∀ x, l ≠ [] → blk P = some x → Off s none x) :
    Calls Try.prog 114 #[storeVal s, .int .i64 k, .slice P l.length pc] w (WithOut B B (fun q => l ≠ [] ∧ blk P = some q) s (keepP s k l) w) := by
  obtain ⟨W0, hW0⟩ : ∃ W0, W0 = (w.alloc (.cells (storeCells s) 43)).alloc (.cells #[.int .i64 0, .slice none 0 0, .slice none 0 0, .slice none 0 0, .slice none 0 0, .slice none 0 0] 43) := ⟨_, rfl⟩
  have hb0 : Below w.heap.size w W0 := by rw [hW0]; exact ((Below.refl _ w).alloc (Nat.le_refl _) _).alloc (by simp) _
  have hx0 : W0.heap[w.heap.size]? = some (.cells (storeCells s) 43 (0, 0)) := by rw [hW0]; exact heap_old _ _ _ _ (heap_new _ _ _ rfl)
  have hx1 : W0.heap[w.heap.size + 1]? = some (.cells #[.int .i64 0, .slice none 0 0, .slice none 0 0, .slice none 0 0, .slice none 0 0, .slice none 0 0] 43 (0, 0)) := by rw [hW0]; exact heap_new _ _ _ (by simp)
  have hz : W0.heap.size = w.heap.size + 2 := by rw [hW0]; simp
  have h0 := h.later hb0
  obtain ⟨k0, k1, k2, k3, k4, k5⟩ := cells6 hx0
  obtain ⟨d0, d1, d2, d3, d4, d5⟩ := cells6 hx1
  have hfz : ∀ j, W0.frozen? ⟨w.heap.size + 1, j, none⟩ = false := fun j => frozen_of_row W0 _ j _ _ hx1
  have f0 := hfz 0
  have f1 := hfz 1
  have f2 := hfz 2
  have f3 := hfz 3
  have f4 := hfz 4
  have f5 := hfz 5
  clear hfz
  replace hb0 := Lib.hid hb0
  replace hx0 := Lib.hid hx0
  replace hx1 := Lib.hid hx1
  replace hz := Lib.hid hz
  by_cases hl : l = []
  · subst hl
    have hc : Hid (Calls Try.prog 115 #[storeVal s, .int .i64 k] W0 (WithOut B W0.heap.size (fun _ => False) s (keepP s k []) W0)) := without_any B s k W0 h0 (by rw [hz.out]; omega) hk
    go_enter Try.func114, Try.ntmps114
    go_upto_region 1 with fail
    rw [← hW0]
    replace hW0 := Lib.hid hW0
    clear d0 d1 d2 d3 d4 d5 f0 f1 f2 f3 f4 f5
    go_wp2_with fail
    go_at_call 115
    (with_reducible refine hc.out.mono ?_)
    rintro e w2 ⟨t, rfl, hst, hrt, hb2, hf2, _, ho2⟩
    have hx2 : w2.heap[w.heap.size + 1]? = some (.cells #[.int .i64 0, .slice none 0 0, .slice none 0 0, .slice none 0 0, .slice none 0 0, .slice none 0 0] 43 (0, 0)) := (hb2.block _ (by rw [hz.out]; omega)).trans hx1.out
    obtain ⟨d0, d1, d2, d3, d4, d5⟩ := cells6 hx2
    have hfz : ∀ j, w2.frozen? ⟨w.heap.size + 1, j, none⟩ = false := fun j => frozen_of_row w2 _ j _ _ hx2
    have f0 := hfz 0
    have f1 := hfz 1
    have f2 := hfz 2
    have f3 := hfz 3
    have f4 := hfz 4
    have f5 := hfz 5
    clear hfz
    replace hx2 := Lib.hid hx2
    replace hst := Lib.hid hst
    replace hrt := Lib.hid hrt
    replace hb2 := Lib.hid hb2
    replace hf2 := Lib.hid hf2
    replace ho2 := Lib.hid ho2
    go_wp2_with fail
    have hw2 : w.heap.size + 2 ≤ w2.heap.size := by have := hb2.out.size; rw [hz.out] at this; exact this
    refine bodyPost_ret (results_cell_row rfl _ _ (w.heap.size + 1) 43 _ (0, 0) _ rfl (set6 _ _ _ _ _ _ hx2.out) Try.underlying43 rfl (by kernel_rfl)) rfl ?_
    refine ⟨t, rfl, hst.out, hrt.out.put6 (by omega) (far_of hf2.out (fun q hq => by have := h.lies hq; omega) (fun q hq => hq.elim) (by rw [hz.out]; omega)) _ _ _ _ _ _, ?_, fun q hq => ?_, fun q hq _ => ?_, fun q hq => ?_⟩
    · exact set6_below _ _ _ _ _ _ ((hb0.out.mono hB).trans (hb2.out.mono (by rw [hz.out]; omega))) (by omega)
    · rcases hf2.out q hq with h1 | h1 | h1
      · exact .inl h1
      · exact h1.elim
      · exact .inr (.inr (by rw [hz.out] at h1; omega))
    · rw [set6_other _ _ _ _ _ _ (by omega)]
      exact (hb2.out.block q (by rw [hz.out]; omega)).trans (hb0.out.block q hq)
    · rcases ho2.out q hq with h1 | h1
      · exact .inl h1
      · exact .inr (by rw [hz.out] at h1; omega)
  · obtain ⟨x, l', rfl⟩ := List.exists_cons_of_ne_nil hl
    obtain ⟨g, hg, hc, hf⟩ := h0.heapAt hk
    have fg := hf (k * 7 + 3)
    obtain ⟨H, hH⟩ : ∃ H, H = s.heaps[k] := ⟨_, rfl⟩
    rw [← hH] at hc
    have cg : W0.cell? ⟨g, k * 7 + 3, none⟩ = some (.slice H.pa H.parts.length H.pc) := hc 3 _ rfl
    replace hc := Lib.hid hc
    replace hf := Lib.hid hf
    replace hH := Lib.hid hH
    have hl0 : ¬ (((x :: l').length : Nat) : Int) = 0 := by simp; omega
    have hl0b : ((((x :: l').length : Nat) : Int) == 0) = false := by simpa using hl0
    obtain ⟨L, hL⟩ : ∃ L, L = (x :: l').length := ⟨_, rfl⟩
    rw [← hL] at hl0 hl0b ⊢
    have hgl : g < w.heap.size := (h.heapsLt (k := g) (by rw [hg]; rfl)).2
    have hge : g ≠ w.heap.size + 1 := by omega
    have hge0 : g ≠ w.heap.size := by omega
    go_enter Try.func114, Try.ntmps114
    go_upto_region 1 with fail
    rw [← hW0]
    replace hW0 := Lib.hid hW0
    rw [hg] at k3
    replace hg := Lib.hid hg
    go_wp2_with fail
    rw [show (l'.length : Int) + 1 = ((l'.length + 1 : Nat) : Int) by omega] at *
    refine bodyPost_ret (results_cell_row rfl _ _ (w.heap.size + 1) 43 _ (0, 0) _ rfl (set6 _ _ _ _ _ _ ((Below.heap_setCell _ _ _ _ (Ne.symm hge)).trans hx1.out)) Try.underlying43 rfl (by kernel_rfl)) rfl ?_
    have hoff := h0.old (List.getElem_mem hk)
    rw [← hH.out] at hoff
    have hR := h0.heapTo (y := { H with parts := x :: l', pa := P, pc := pc }) (i := k) (j := 3) (u := .slice P (l'.length + 1) pc) hg.out hk (by decide) (by rw [← hH.out]; rfl) ⟨⟨hr.below hb0.out, hoff.1.2⟩, fun q h1 h2 => ho q h1 h2⟩
    have hkp : keepP s k (x :: l') = { s with heaps := s.heaps.set k (setPartsH H (x :: l')) } := by unfold keepP; rw [if_neg hl, getD_lt _ hk, hH.out]
    have hLies : ∀ q, Lies { s with heaps := s.heaps.set k { H with parts := x :: l', pa := P, pc := pc } } q → Lies s q ∨ ((x :: l') ≠ [] ∧ blk P = some q) := fun q hq => by
      rcases hq with e | e | e | e | e | ⟨y, hy, h1, h2⟩
      · exact .inl (.inl e)
      · exact .inl (.inr (.inl e))
      · exact .inl (.inr (.inr (.inl e)))
      · exact .inl (.inr (.inr (.inr (.inl e))))
      · exact .inl (.inr (.inr (.inr (.inr (.inl e)))))
      · rcases List.mem_or_eq_of_mem_set hy with h4 | rfl
        · exact .inl (.inr (.inr (.inr (.inr (.inr ⟨y, h4, h1, h2⟩)))))
        · exact .inr ⟨hl, h2⟩
    refine ⟨{ s with heaps := s.heaps.set k { H with parts := x :: l', pa := P, pc := pc } }, ?_, ?_, hR.put6 (by rw [set_size, hz.out]; omega) (fun q hq => ?_) _ _ _ _ _ _, ?_, fun q hq => ?_, fun q hq hne => ?_, fun q hq => .inl hq⟩
    · show Ending.returned (.agg #[_, _, _, _, _, _]) = Ending.returned (.agg #[_, _, _, .slice s.ha (s.heaps.set k _).length s.hc, _, _])
      rw [List.length_set, hg.out]
    · rw [hkp]
      exact (SameC.refl s).put k _ _ rfl
    · rcases hLies q hq with h1 | ⟨h1, h2⟩
      · have := h.lies h1; omega
      · have := hr.lt h1 h2; omega
    · refine set6_below _ _ _ _ _ _ ((hb0.out.mono hB).setCell (p := ⟨g, k * 7 + 3, none⟩) ?_ _) (by omega)
      exact (h.heapsLt (k := g) (by rw [hg.out]; rfl)).1
    · rcases hLies q hq with h1 | h1
      · exact .inl h1
      · exact .inr (.inl h1)
    · rw [set6_other _ _ _ _ _ _ (by omega)]
      refine (Below.heap_setCell _ _ _ _ (fun e => hne ?_)).trans (hb0.out.block q hq)
      rw [hg.out]; exact congrArg some e.symm
end Go.Proofs.Ytpgkhlpepckfgaa
end
section
namespace Go.Proofs.Ytpgkhlpepckfgaa
open Go.RowKit Go.Lib

/-- What is appended to nil lies in a block of its own. -/
theorem wp_fresh {w : World} {ops : Array Oper} {rest : List Oper} {o : Oper} {a : Act} {Q : Exit → Act → World → Prop} (hgd : o.guard = none) (s x : Operand) (t : TypeId)
    (ho : o.op = .call { callee := .builtin .append, args := #[s, x], argTypes := #[t, t] })
    (e : TypeId) (size bytes : Nat) (ht : Try.prog.underlying t = some (.slice e)) {z : Value} (hinfo : (Try.prog.info? e).map (fun i => (i.zero, i.size, i.bytes)) = some (some z, size, bytes)) (hzs : z.cells.size = size) (hsz : 0 < size) (hby : bytes ≤ 1000)
    {α : Type} (enc : α → List Value) (hlen : ∀ x, (enc x).length = size) (hone : ∀ x, ∀ u ∈ enc x, u.oneCell' = true) (A : Option Addr) (c : Nat) (l : List α) (hs : a.eval s = .slice none 0 0) (hx : a.eval x = .slice A l.length c) (hr : FlatRow enc size w A l) (hl : l.length ≤ 1000000)
    (h : ∀ A' c' w', w'.ownsRow w.heap.size e size (.slice A' l.length c') l.length (l.flatMap enc) → Below w.heap.size w w' → wpList Try.prog ops Q rest (a.put o.dst (.slice A' l.length c')) w') : wpList Try.prog ops Q (o :: rest) a w := by
  cases A with
  | none =>
    have h0 : l = [] := by
      cases l with
      | nil => rfl
      | cons a l => obtain ⟨ad, e, _⟩ := hr.2 0 a rfl; cases e
    subst h0
    refine wpList_plain hgd fun _ hK => ?_
    obtain ⟨i, hi, hzz⟩ := Option.map_eq_some_iff.1 hinfo
    have hrun : (Builtin.append_ #[t, t] o.type #[.slice none 0 0, .slice none 0 c]).run Try.prog w = .ok (.slice none 0 0) w := by
      simp [Builtin.append_, run_underlying ht, sizeOf, typeInfo, hi, go_sem]
    unfold Oper.wp execOp
    simp only [ho, resolve, invoke, builtin, Sem.run_bind, Sem.run_pure, Result.andThen_ok, List.map_toArray, List.map_cons, List.map_nil, hs, hx, List.length_nil, hrun]
    exact hK _ _ (h none 0 w (World.ownsRow_nil _ _ _ _) (Below.refl _ _))
  | some ad =>
    have hll := flat_len (sz := size) (enc := enc) hlen l
    have hmul : l.length * bytes ≤ 1000000 * 1000 := Nat.mul_le_mul hl hby
    refine wp_app w hgd s x t ho w.heap.size e size bytes ht hinfo hzs hsz (.slice none 0 0) 0 [] hs (World.ownsRow_nil _ _ _ _) ad l.length c (l.flatMap enc) hx hll (flat_news hlen hsz hr)
      (fun u hu => by obtain ⟨p, _, hp⟩ := List.mem_flatMap.1 hu; exact hone p u hp) (by unfold maxLen; omega) (by rw [Nat.zero_add]; omega) (Nat.le_refl _) ?_
    intro v' w1 hown hgrow _
    rw [Nat.zero_add, List.nil_append] at hown
    have hb : Below w.heap.size w w1 := (Below.refl _ w).grown hgrow (Nat.le_refl _) (fun k e => by cases e)
    have : ∃ A' c', v' = .slice A' l.length c' := by
      rcases hown.2 with ⟨rfl, h0⟩ | ⟨g, cap, cur, rfl, _⟩
      · exact ⟨none, 0, by rw [h0]⟩
      · exact ⟨_, cap, rfl⟩
    obtain ⟨A', c', rfl⟩ := this
    exact h A' c' w1 hown hb
/-- What lies where: the store that came in, the result, the new one. -/
structure TwR (w : World) (s t : Store) (W : World) : Prop where
  below : Below w.heap.size w W
  box : W.heap[w.heap.size]? = some (.cells (storeCells s) 43 (0, 0))
  out : W.heap[w.heap.size + 1]? = some (.cells #[.int .i64 0, .slice none 0 0, .slice none 0 0, .slice none 0 0, .slice none 0 0, .slice none 0 0] 43 (0, 0))
  obj : W.heap[w.heap.size + 1 + 1]? = some (.cells (storeCells t) 43 (0, 0))
  size : w.heap.size + 3 ≤ W.heap.size
section
variable {w : World} {s t : Store} {W W' : World}
theorem TwR.start : TwR w s s (((w.alloc (.cells (storeCells s) 43)).alloc (.cells #[.int .i64 0, .slice none 0 0, .slice none 0 0, .slice none 0 0, .slice none 0 0, .slice none 0 0] 43)).alloc (.cells (storeCells s) 43)) :=
  ⟨(((Below.refl _ w).alloc (Nat.le_refl _) _).alloc (by simp) _).alloc (by simp; omega) _, heap_old _ _ _ _ (heap_old _ _ _ _ (heap_new _ _ _ rfl)), heap_old _ _ _ _ (heap_new _ _ _ (by simp)), heap_new _ _ _ (by simp), by simp⟩
theorem TwR.later (h : TwR w s t W) (hb : Below W.heap.size W W') : TwR w s t W' := by
  have hz := h.size
  exact ⟨h.below.trans (hb.mono h.below.size), (hb.block _ (by omega)).trans h.box, (hb.block _ (by omega)).trans h.out, (hb.block _ (by omega)).trans h.obj, Nat.le_trans hz hb.size⟩
theorem TwR.put (h : TwR w s t W) {t' : Store} (j : Nat) (u : Value) (he : (storeCells t).setIfInBounds j u = storeCells t') : TwR w s t' (W.setCell ⟨w.heap.size + 1 + 1, j, none⟩ u) :=
  ⟨h.below.setCell (p := ⟨w.heap.size + 1 + 1, j, none⟩) (by show _ ≤ _ + 1 + 1; omega) _, (Below.heap_setCell _ _ _ _ (by simp; omega)).trans h.box, (Below.heap_setCell _ _ _ _ (by simp)).trans h.out, by rw [← he]; exact set_cells h.obj u, by rw [set_size]; exact h.size⟩
end
/-- What is there stays, but for the block b. -/
def Aft (b : Nat) (W W' : World) : Prop := W.heap.size ≤ W'.heap.size ∧ ∀ k, k < W.heap.size → k ≠ b → W'.heap[k]? = W.heap[k]?
theorem Aft.refl (b : Nat) (W : World) : Aft b W W := ⟨Nat.le_refl _, fun _ _ _ => rfl⟩
theorem Aft.trans {b : Nat} {W W' W'' : World} (h : Aft b W W') (h' : Aft b W' W'') : Aft b W W'' := ⟨Nat.le_trans h.1 h'.1, fun k hk hn => (h'.2 k (Nat.lt_of_lt_of_le hk h.1) hn).trans (h.2 k hk hn)⟩
theorem Aft.below {b : Nat} {W W' : World} (h : Below W.heap.size W W') : Aft b W W' := ⟨h.size, fun k hk _ => h.block k hk⟩
theorem Aft.set (b : Nat) (W : World) (j : Nat) (u : Value) : Aft b W (W.setCell ⟨b, j, none⟩ u) := ⟨by rw [set_size]; exact Nat.le_refl _, fun k _ hn => Below.heap_setCell _ _ _ _ hn⟩
theorem Aft.row {b base : Nat} {W W' : World} {e : TypeId} {size n : Nat} {v : Value} {xs : List Value} (h : Aft b W W') (hr : W.ownsRow base e size v n xs) (hb : b < base) : W'.ownsRow base e size v n xs :=
  ownsRow_same hr fun k e => h.2 k (hr.lt k e).2 (by have := (hr.lt k e).1; omega)
/-- The twin under way: j heaps are copied. -/
structure TwL (w : World) (s t : Store) (j : Nat) (W : World) : Prop where
  rows : Rows (w.heap.size + 3) (some (w.heap.size + 1 + 1)) t W
  lay : TwR w s t W
  year : t.year = s.year
  last : t.last = s.last
  given : t.given = s.given
  heaps : t.heaps.map bareH = (s.heaps.take j).map bareH
  used : t.used = s.used
  waste : t.waste = s.waste
theorem TwL.later {w : World} {s t : Store} {j : Nat} {W W' : World} (h : TwL w s t j W) (hb : Below W.heap.size W W') : TwL w s t j W' := ⟨h.rows.later hb, h.lay.later hb, h.year, h.last, h.given, h.heaps, h.used, h.waste⟩
theorem TwL.len {w : World} {s t : Store} {j : Nat} {W : World} (h : TwL w s t j W) : t.heaps.length ≤ j := by
  have := congrArg List.length h.heaps
  simp only [List.length_map, List.length_take] at this
  omega
theorem TwR.grown {w : World} {s t : Store} {W w1 : World} {r : Option Nat} (h : TwR w s t W) (hg : W.grownBy w1 r) (hr : ∀ k, r = some k → w.heap.size + 3 ≤ k) : TwR w s t w1 := by
  have hz := h.size
  have hk : ∀ k, k < w.heap.size + 3 → w1.heap[k]? = W.heap[k]? := fun k hk => hg.block k (by omega) (fun e => by have := hr k e.symm; omega)
  exact ⟨h.below.grown hg h.below.size (fun k e => by have := hr k e; omega), (hk _ (by omega)).trans h.box, (hk _ (by omega)).trans h.out, (hk _ (by omega)).trans h.obj, Nat.le_trans hz hg.size⟩
theorem TwL.push {w : World} {s t : Store} {j : Nat} {W w1 : World} {v' : Value} {H' : Heap} (h : TwL w s t j W) (hj : j < s.heaps.length) (hbare : bareH H' = bareH s.heaps[j]) (hp : RdParts W H'.pa H'.parts ∧ H'.name.size ≤ 140737488351232)
    (ho : ∀ k, H'.parts ≠ [] → blk H'.pa = some k → Off t (some (w.heap.size + 1 + 1)) k) (hown : w1.ownsRow (w.heap.size + 3) 77 7 v' (t.heaps.length + 1) (t.heaps.flatMap encHeap ++ encHeap H'))
    (hgrow : W.grownBy w1 (Value.slice t.ha t.heaps.length t.hc).ownBlock) (hnear : ∀ k, v'.ownBlock = some k → (Value.slice t.ha t.heaps.length t.hc).ownBlock = some k ∨ W.heap.size ≤ k) (hl : t.heaps.length + 1 ≤ 1000) :
    ∃ A' c', v' = .slice A' (t.heaps.length + 1) c' ∧ TwL w s { t with heaps := t.heaps ++ [H'], ha := A', hc := c' } (j + 1) (w1.setCell ⟨w.heap.size + 1 + 1, 3, none⟩ v') := by
  have : ∃ A' c', v' = .slice A' (t.heaps.length + 1) c' := by
    rcases hown.2 with ⟨rfl, h0⟩ | ⟨g, cap, cur, rfl, _⟩
    · exact ⟨none, 0, by rw [h0]⟩
    · exact ⟨_, cap, rfl⟩
  obtain ⟨A', c', rfl⟩ := this
  have hlen : (t.heaps ++ [H']).length = t.heaps.length + 1 := by simp
  have hR : Rows (w.heap.size + 3) (some (w.heap.size + 1 + 1)) { t with heaps := t.heaps ++ [H'], ha := A', hc := c' } w1 :=
    h.rows.heapsTo (l := t.heaps ++ [H']) (A := A') (c := c') hgrow.size (fun k hk hne => hgrow.block k hk (fun e => hne (by rw [ownBlock_slice] at e; exact e.symm)))
      (by rw [hlen, List.flatMap_append]; simpa using hown) (fun k e => by have := hnear k (by rw [ownBlock_slice]; exact e); rw [ownBlock_slice] at this; exact this)
      (fun g hg => by
        rcases List.mem_append.1 hg with h1 | h1
        · exact h.rows.old h1
        · simp at h1; subst h1; exact ⟨hp, ho⟩) (by rw [hlen]; exact hl)
  refine ⟨A', c', rfl, hR.box 3 _, (h.lay.grown hgrow (fun k e => (h.rows.heaps.lt k e).1)).put 3 _ (by show _ = storeCells _; simp [storeCells]), h.year, h.last, h.given, ?_, h.used, h.waste⟩
  show (t.heaps ++ [H']).map bareH = _
  rw [List.map_append, h.heaps, List.take_succ_eq_append_getElem hj, List.map_append]
  simp [hbare]
theorem RdParts.apart6 {W : World} {A : Option Addr} {l : List Portion} (h : RdParts W A l) (hl : l ≠ []) {k b6 : Nat} {y : Int} {c1 c2 c3 c4 c5 : Option Addr × Nat × Nat} (hk : blk A = some k)
    (h6 : W.heap[b6]? = some (.cells #[.int .i64 y, .slice c1.1 c1.2.1 c1.2.2, .slice c2.1 c2.2.1 c2.2.2, .slice c3.1 c3.2.1 c3.2.2, .slice c4.1 c4.2.1 c4.2.2, .slice c5.1 c5.2.1 c5.2.2] 43 (0, 0))) : k ≠ b6 := by
  obtain ⟨o, a, b, e0, e1⟩ := h.two hl hk
  rintro rfl
  simp only [World.cell?, h6] at e0 e1
  rcases o with _ | _ | _ | _ | _ | _ | o <;> simp at e0 e1
theorem Rows.apart6 {B : Nat} {x : Option Nat} {t : Store} {W : World} (h : Rows B x t W) {b6 : Nat} {y : Int} {c1 c2 c3 c4 c5 : Option Addr × Nat × Nat}
    (h6 : W.heap[b6]? = some (.cells #[.int .i64 y, .slice c1.1 c1.2.1 c1.2.2, .slice c2.1 c2.2.1 c2.2.2, .slice c3.1 c3.2.1 c3.2.2, .slice c4.1 c4.2.1 c4.2.2, .slice c5.1 c5.2.1 c5.2.2] 43 (0, 0))) {k : Nat} (hk : Reads t k) : k ≠ b6 := by
  rcases hk with ⟨h1, h2⟩ | ⟨h1, h2⟩ | ⟨g, hg, h1, h2⟩
  · exact h.used.apart6 h1 h2 h6
  · exact h.waste.apart6 h1 h2 h6
  · exact (h.parts g hg).1.apart6 h1 h2 h6
theorem intOne (x : Int) : ∀ u ∈ encI x, u.oneCell' = true := fun u hu => by simp [encI] at hu; subst hu; rfl
theorem partOne (x : Portion) : ∀ u ∈ encPortion x, u.oneCell' = true := fun u hu => by simp [encPortion] at hu; rcases hu with rfl | rfl <;> rfl

set_option maxHeartbeats 2000000 in
set_option maxRecDepth 100000 in
theorem rTwin_any (s : Store) (w : World) (hs : RdStore w s) (hm : MildS s) : Calls Try.prog 79 #[storeVal s] w (TwinOut s w) := by
  obtain ⟨W0, hW0⟩ : ∃ W0, W0 = ((w.alloc (.cells (storeCells s) 43)).alloc (.cells #[.int .i64 0, .slice none 0 0, .slice none 0 0, .slice none 0 0, .slice none 0 0, .slice none 0 0] 43)).alloc (.cells (storeCells s) 43) := ⟨_, rfl⟩
  have hT0 : Hid (TwR w s s W0) := by rw [hW0]; exact TwR.start
  have hsl : Hid (∀ W, Below w.heap.size w W → RdStore W s) := fun W hW => hs.below hW
  replace hm := Lib.hid hm
  go_enter Try.func79, Try.ntmps79
  go_upto_region 2 with fail
  rw [← hW0]
  replace hW0 := Lib.hid hW0
  have hfz : Hid (∀ (t : Store) (W : World), TwR w s t W → ∀ j, W.frozen? ⟨w.heap.size + 1 + 1, j, none⟩ = false) := fun t W h j => frozen_of_row W _ j _ _ h.obj
  obtain ⟨k0, k1, k2, k3, k4, k5⟩ := six_cells hT0.out.box
  obtain ⟨o0, o1, o2, o3, o4, o5⟩ := six_cells hT0.out.obj
  have f1 := hfz.out _ _ hT0.out 1
  have r1 := Lib.hid (hsl.out _ hT0.out.below)
  go_upto_region 3 with (refine wp_fresh rfl _ _ _ rfl 3 1 8 Try.underlying29 info3 rfl (by decide) (by decide) encI (fun _ => rfl) intOne s.la s.lc s.last rfl rfl r1.out.last (by have := hm.out.last; omega) ?_; intro A1 c1 w1 q1 hb1; have hT1 := Lib.hid (hT0.out.later hb1); clear k0 k1 k2 k3 k4 k5 o0 o1 o2 o3 o4 o5 f1; obtain ⟨k0, k1, k2, k3, k4, k5⟩ := six_cells hT1.out.box; obtain ⟨o0, o1, o2, o3, o4, o5⟩ := six_cells hT1.out.obj; have f1 := hfz.out _ _ hT1.out 1; replace q1 := Lib.hid q1; replace hb1 := Lib.hid hb1)
  obtain ⟨v1, hv1⟩ : ∃ x, x = w1.setCell ⟨w.heap.size + 1 + 1, 1, none⟩ (.slice A1 s.last.length c1) := ⟨_, rfl⟩
  have hT1v : Hid (TwR w s { s with la := A1, lc := c1 } v1) := by rw [hv1]; exact hT1.out.put 1 _ rfl
  have hA1 : Hid (Aft (w.heap.size + 1 + 1) w1 v1) := by rw [hv1]; exact Aft.set _ _ _ _
  rw [← hv1]
  replace hv1 := Lib.hid hv1
  clear k0 k1 k2 k3 k4 k5 o0 o1 o2 o3 o4 o5 f1
  obtain ⟨k0, k1, k2, k3, k4, k5⟩ := six_cells hT1v.out.box
  obtain ⟨o0, o1, o2, o3, o4, o5⟩ := six_cells hT1v.out.obj
  have f1 := hfz.out _ _ hT1v.out 1
  have r2 := Lib.hid (hsl.out _ hT1v.out.below)
  go_upto_region 4 with (refine wp_fresh rfl _ _ _ rfl 3 1 8 Try.underlying29 info3 rfl (by decide) (by decide) encI (fun _ => rfl) intOne s.ga s.gc s.given rfl rfl r2.out.given (by have := hm.out.given; omega) ?_; intro A2 c2 w2 q2 hb2; have hT2 := Lib.hid (hT1v.out.later hb2); clear k0 k1 k2 k3 k4 k5 o0 o1 o2 o3 o4 o5 f1; obtain ⟨k0, k1, k2, k3, k4, k5⟩ := six_cells hT2.out.box; obtain ⟨o0, o1, o2, o3, o4, o5⟩ := six_cells hT2.out.obj; have f1 := hfz.out _ _ hT2.out 2; replace q2 := Lib.hid q2; replace hb2 := Lib.hid hb2)
  obtain ⟨v2, hv2⟩ : ∃ x, x = w2.setCell ⟨w.heap.size + 1 + 1, 2, none⟩ (.slice A2 s.given.length c2) := ⟨_, rfl⟩
  have hT2v : Hid (TwR w s { s with la := A1, lc := c1, ga := A2, gc := c2 } v2) := by rw [hv2]; exact hT2.out.put 2 _ rfl
  have hA2 : Hid (Aft (w.heap.size + 1 + 1) w2 v2) := by rw [hv2]; exact Aft.set _ _ _ _
  rw [← hv2]
  replace hv2 := Lib.hid hv2
  clear k0 k1 k2 k3 k4 k5 o0 o1 o2 o3 o4 o5 f1
  obtain ⟨k0, k1, k2, k3, k4, k5⟩ := six_cells hT2v.out.box
  obtain ⟨o0, o1, o2, o3, o4, o5⟩ := six_cells hT2v.out.obj
  have f1 := hfz.out _ _ hT2v.out 1
  have r3 := Lib.hid (hsl.out _ hT2v.out.below)
  go_upto_region 5 with (refine wp_fresh rfl _ _ _ rfl 91 2 16 Try.underlying41 info91 rfl (by decide) (by decide) encPortion (fun _ => rfl) partOne s.ua s.uc s.used rfl rfl r3.out.used (hm.out.used) ?_; intro A3 c3 w3 q3 hb3; have hT3 := Lib.hid (hT2v.out.later hb3); clear k0 k1 k2 k3 k4 k5 o0 o1 o2 o3 o4 o5 f1; obtain ⟨k0, k1, k2, k3, k4, k5⟩ := six_cells hT3.out.box; obtain ⟨o0, o1, o2, o3, o4, o5⟩ := six_cells hT3.out.obj; have f1 := hfz.out _ _ hT3.out 4; replace q3 := Lib.hid q3; replace hb3 := Lib.hid hb3)
  obtain ⟨v3, hv3⟩ : ∃ x, x = w3.setCell ⟨w.heap.size + 1 + 1, 4, none⟩ (.slice A3 s.used.length c3) := ⟨_, rfl⟩
  have hT3v : Hid (TwR w s { s with la := A1, lc := c1, ga := A2, gc := c2, ua := A3, uc := c3 } v3) := by rw [hv3]; exact hT3.out.put 4 _ rfl
  have hA3 : Hid (Aft (w.heap.size + 1 + 1) w3 v3) := by rw [hv3]; exact Aft.set _ _ _ _
  rw [← hv3]
  replace hv3 := Lib.hid hv3
  clear k0 k1 k2 k3 k4 k5 o0 o1 o2 o3 o4 o5 f1
  obtain ⟨k0, k1, k2, k3, k4, k5⟩ := six_cells hT3v.out.box
  obtain ⟨o0, o1, o2, o3, o4, o5⟩ := six_cells hT3v.out.obj
  have f1 := hfz.out _ _ hT3v.out 1
  have r4 := Lib.hid (hsl.out _ hT3v.out.below)
  go_upto_region 6 with (refine wp_fresh rfl _ _ _ rfl 91 2 16 Try.underlying41 info91 rfl (by decide) (by decide) encPortion (fun _ => rfl) partOne s.wa s.wc s.waste rfl rfl r4.out.waste (hm.out.waste) ?_; intro A4 c4 w4 q4 hb4; have hT4 := Lib.hid (hT3v.out.later hb4); clear k0 k1 k2 k3 k4 k5 o0 o1 o2 o3 o4 o5 f1; obtain ⟨k0, k1, k2, k3, k4, k5⟩ := six_cells hT4.out.box; obtain ⟨o0, o1, o2, o3, o4, o5⟩ := six_cells hT4.out.obj; have f1 := hfz.out _ _ hT4.out 5; replace q4 := Lib.hid q4; replace hb4 := Lib.hid hb4)
  obtain ⟨v4, hv4⟩ : ∃ x, x = w4.setCell ⟨w.heap.size + 1 + 1, 5, none⟩ (.slice A4 s.waste.length c4) := ⟨_, rfl⟩
  have hT4v : Hid (TwR w s { s with la := A1, lc := c1, ga := A2, gc := c2, ua := A3, uc := c3, wa := A4, wc := c4 } v4) := by rw [hv4]; exact hT4.out.put 5 _ rfl
  have hA4 : Hid (Aft (w.heap.size + 1 + 1) w4 v4) := by rw [hv4]; exact Aft.set _ _ _ _
  rw [← hv4]
  replace hv4 := Lib.hid hv4
  clear k0 k1 k2 k3 k4 k5 o0 o1 o2 o3 o4 o5 f1
  obtain ⟨k0, k1, k2, k3, k4, k5⟩ := six_cells hT4v.out.box
  obtain ⟨o0, o1, o2, o3, o4, o5⟩ := six_cells hT4v.out.obj
  have f1 := hfz.out _ _ hT4v.out 3
  have r5 := Lib.hid (hsl.out _ hT4v.out.below)
  go_upto_region 8 with fail
  obtain ⟨v5, hv5⟩ : ∃ x, x = v4.setCell ⟨w.heap.size + 1 + 1, 3, none⟩ (.slice none 0 0) := ⟨_, rfl⟩
  rw [← hv5]
  have hL0 : Hid (TwL w s { s with la := A1, lc := c1, ga := A2, gc := c2, ua := A3, uc := c3, wa := A4, wc := c4, heaps := [], ha := none, hc := 0 } 0 v5) := by
    have hT5 : TwR w s { s with la := A1, lc := c1, ga := A2, gc := c2, ua := A3, uc := c3, wa := A4, wc := c4, heaps := [], ha := none, hc := 0 } v5 := by rw [hv5]; exact hT4v.out.put 3 _ rfl
    have hA5 : Aft (w.heap.size + 1 + 1) v4 v5 := by rw [hv5]; exact Aft.set _ _ _ _
    have a4 := hA4.out.trans hA5
    have a3 := (hA3.out.trans (Aft.below hb4.out)).trans a4
    have a2 := (hA2.out.trans (Aft.below hb3.out)).trans a3
    have a1 := (hA1.out.trans (Aft.below hb2.out)).trans a2
    have z0 := hT0.out.size
    have e1 := hb1.out.size
    have e2 := hA1.out.1
    have e3 := hb2.out.size
    have e4 := hA2.out.1
    have e5 := hb3.out.size
    have e6 := hA3.out.1
    have e7 := hb4.out.size
    have e8 := hA4.out.1
    refine ⟨?_, hT5, rfl, rfl, rfl, rfl, rfl, rfl⟩
    have s1 : SlRow v5 (w.heap.size + 3) (.slice A1 s.last.length c1) s.last := by
      have := ownsRow_raise (a1.row q1.out (by omega)) (base' := w.heap.size + 3) (by omega)
      unfold SlRow; rw [← flat_ints]; exact this
    have s2 : SlRow v5 (w.heap.size + 3) (.slice A2 s.given.length c2) s.given := by
      have := ownsRow_raise (a2.row q2.out (by omega)) (base' := w.heap.size + 3) (by omega)
      unfold SlRow; rw [← flat_ints]; exact this
    have s3 : PRow v5 v2.heap.size (.slice A3 s.used.length c3) s.used := a3.row q3.out (by omega)
    have s4 : PRow v5 v3.heap.size (.slice A4 s.waste.length c4) s.waste := a4.row q4.out (by omega)
    have u3 : RdParts v5 A3 s.used := s3.rd (by have := hm.out.used; omega)
    have u4 : RdParts v5 A4 s.waste := s4.rd (by have := hm.out.waste; omega)
    refine Rows.start (p1 := w.heap.size + 3) (p3 := v2.heap.size) (p5 := v4.heap.size) s1 s2 (World.ownsRow_nil _ _ _ _) u3 u4 (by simp) ⟨hm.out.last, hm.out.given, by simp⟩ (by omega) (by omega) ?_ ?_ ?_ ?_ (fun k e => by cases e) (by simp) (fun k e => by cases e; have := hT5.size; omega)
    · intro k e
      have h1 := q1.out.lt k (by rw [ownBlock_slice]; exact e)
      refine ⟨by omega, by omega, fun e2 => ?_⟩
      have h2 := q2.out.lt k (by rw [ownBlock_slice]; exact e2)
      omega
    · intro k e
      have h2 := q2.out.lt k (by rw [ownBlock_slice]; exact e)
      omega
    · intro k e
      have h2 := q3.out.lt k (by rw [ownBlock_slice]; exact e)
      omega
    · intro k e
      have h2 := q4.out.lt k (by rw [ownBlock_slice]; exact e)
      omega
  clear k0 k1 k2 k3 k4 k5 o0 o1 o2 o3 o4 o5 f1 hT0 hT1 hT2 hT3 hT4 hT1v hT2v hT3v hT4v hA1 hA2 hA3 hA4 q1 q2 q3 q4 hb1 hb2 hb3 hb4 r1 r2 r3 r4 r5 hv5
  have hln := hm.out.heaps
  go_loopw [4] (fun i wr => ∃ (j : Nat) (t : Store), i = .int .i64 j ∧ j ≤ s.heaps.length ∧ Hid (TwL w s t j wr)) (fun i _ => s.heaps.length - (intOf i).toNat)
  case atStart => exact ⟨0, _, rfl, Nat.zero_le _, hL0⟩
  case round =>
    obtain ⟨j, t, rfl, hj, hI⟩ := hrel
    clear hL0
    obtain ⟨k0, k1, k2, k3, k4, k5⟩ := six_cells hI.out.lay.box
    by_cases hlt : j < s.heaps.length
    · obtain ⟨H, hH⟩ : ∃ H, H = s.heaps[j] := ⟨_, rfl⟩
      have hrd := (hsl.out _ hI.out.lay.below).heaps
      obtain ⟨ad, hAd, x0, x1, x2, x3, x4, x5, x6⟩ := FlatRow.at7 hrd.1 hlt rfl
      have hpr := (hrd.2 _ (List.getElem_mem hlt)).1
      have hpl := hm.out.parts _ (List.getElem_mem hlt)
      rw [← hH] at x0 x1 x2 x3 x4 x5 x6 hpr hpl
      rw [hAd] at k3
      replace hH := Lib.hid hH
      replace hAd := Lib.hid hAd
      clear hrd
      go_upto_region 11 with fail
      obtain ⟨b, hb⟩ : ∃ b, b = wr.heap.size := ⟨_, rfl⟩
      obtain ⟨wb, hwb⟩ : ∃ x, x = wr.alloc (.cells (hcells H) 77) := ⟨_, rfl⟩
      rw [← hwb, ← hb]
      have hbb : Below wr.heap.size wr wb := by rw [hwb]; exact (Below.refl _ wr).alloc (Nat.le_refl _) _
      have hbx : wb.heap[b]? = some (.cells (hcells H) 77 (0, 0)) := by rw [hwb, hb]; exact heap_new _ _ _ rfl
      have hbl := (Array.getElem?_eq_some_iff.1 hbx).1
      have hLb := Lib.hid (hI.out.later hbb)
      have hpb := Lib.hid (hpr.below hbb)
      have hbge : w.heap.size + 3 ≤ b := by rw [hb]; exact hI.out.lay.size
      clear x0 x1 x2 x3 x4 x5 x6 k0 k1 k2 k3 k4 k5
      replace hbb := Lib.hid hbb
      replace hwb := Lib.hid hwb
      replace hb := Lib.hid hb
      obtain ⟨m0, m1, m2, m3, m4, m5, m6⟩ := seven_cells hbx
      have fb3 : wb.frozen? ⟨b, 3, none⟩ = false := frozen_of_row wb b 3 _ _ hbx
      replace hbx := Lib.hid hbx
      go_upto_region 12 with (refine wp_fresh rfl _ _ _ rfl 91 2 16 Try.underlying41 info91 rfl (by decide) (by decide) encPortion (fun _ => rfl) partOne H.pa H.pc H.parts rfl rfl hpb.out hpl ?_; intro A c wc qc hbc; have hLc := Lib.hid (hLb.out.later hbc); have hbxc : wc.heap[b]? = some (.cells (hcells H) 77 (0, 0)) := (hbc.block b hbl).trans hbx.out; clear m0 m1 m2 m3 m4 m5 m6 fb3; obtain ⟨m0, m1, m2, m3, m4, m5, m6⟩ := seven_cells hbxc; have fb3 : wc.frozen? ⟨b, 3, none⟩ = false := frozen_of_row wc b 3 _ _ hbxc; replace qc := Lib.hid qc; replace hbc := Lib.hid hbc; replace hbxc := Lib.hid hbxc)
      obtain ⟨wd, hwd⟩ : ∃ x, x = wc.setCell ⟨b, 3, none⟩ (.slice A H.parts.length c) := ⟨_, rfl⟩
      rw [← hwd]
      have hbd : Below wr.heap.size wr wd := by rw [hwd]; exact (hbb.out.trans (hbc.out.mono hbb.out.size)).setCell (p := ⟨b, 3, none⟩) (by show _ ≤ b; rw [hb.out]; exact Nat.le_refl _) _
      obtain ⟨H', hH'⟩ : ∃ H', H' = ({ H with pa := A, pc := c } : Heap) := ⟨_, rfl⟩
      have hbxd : wd.heap[b]? = some (.cells (hcells H') 77 (0, 0)) := by rw [hwd, hH']; exact set_cells hbxc.out _
      have hLd := Lib.hid (hI.out.later hbd)
      have hqd : Hid (PRow wd wb.heap.size (.slice A H.parts.length c) H.parts) := ownsRow_same qc.out fun q e => by rw [hwd]; exact Below.heap_setCell _ _ _ _ (by have := (qc.out.lt q e).1; show q ≠ b; omega)
      have hnm : Hid (H.name.size ≤ 140737488351232) := by rw [hH.out]; exact (hs.heaps.2 _ (List.getElem_mem hlt)).2
      clear m0 m1 m2 m3 m4 m5 m6 fb3 hbxc hLc hLb hpb hbx
      replace hwd := Lib.hid hwd
      replace hH' := Lib.hid hH'
      obtain ⟨m0, m1, m2, m3, m4, m5, m6⟩ := seven_cells hbxd
      obtain ⟨o0, o1, o2, o3, o4, o5⟩ := six_cells hLd.out.lay.obj
      have htl : t.heaps.length ≤ j := hLd.out.len
      have h63 : Hid (t.heaps.length + 1 ≤ maxLen) := by unfold Hid maxLen; omega
      have hby : Hid ((t.heaps.length + 1) * 80 ≤ 140737488355328) := by unfold Hid; omega
      have hnew : Hid (∀ q u, (encHeap H')[q]? = some u → (wd.alloc (.cells (hcells H') 77)).cell? ((⟨wd.heap.size, 0, none⟩ : Addr).add q) = some u) := fun q u hu => new_heapD wd H' q u hu
      have hone : Hid (∀ u ∈ encHeap H', u.oneCell' = true) := fun u hu => heaps_one [H'] u (by simpa using hu)
      have hLe := Lib.hid (hLd.out.later ((Below.refl _ wd).alloc (Nat.le_refl _) (.cells (hcells H') 77)))
      have hbase : Hid (w.heap.size + 3 ≤ (wd.alloc (.cells (hcells H') 77)).heap.size) := hLe.out.lay.size
      have hba : Hid (bareH H' = bareH s.heaps[j]) := by unfold Hid; rw [hH'.out, ← hH.out]; rfl
      have hpe : Hid (RdParts (wd.alloc (.cells (hcells H') 77)) H'.pa H'.parts ∧ H'.name.size ≤ 140737488351232) := by
        unfold Hid
        rw [hH'.out]
        exact ⟨(hqd.out.rd (by omega)).below ((Below.refl _ wd).alloc (Nat.le_refl _) _), hnm.out⟩
      have hoff : Hid (∀ k, H'.parts ≠ [] → blk H'.pa = some k → Off t (some (w.heap.size + 1 + 1)) k) := fun k _ e => by
        rw [hH'.out] at e
        have h1 := (hqd.out.lt k (by rw [ownBlock_slice]; exact e)).1
        have h2 := hbb.out.size
        exact hI.out.rows.newOff (by omega)
      replace hbxd := Lib.hid hbxd
      go_wp2_with (at_builtin; refine wp_app _ rfl _ _ 40 rfl (w.heap.size + 3) 77 7 80 Try.underlying40 info77 rfl (by decide) _ t.heaps.length (t.heaps.flatMap encHeap) rfl hLe.out.rows.heaps ⟨wd.heap.size, 0, none⟩ 1 1 (encHeap H') rfl rfl hnew.out hone.out h63.out hby.out hbase.out ?_; intro v' w1 hown hgrow hnear; have hown' := hown; have hP := hLe.out.push hlt hba.out hpe.out hoff.out hown hgrow hnear (by omega); have hlay := hLe.out.lay.grown hgrow (fun k e => (hLe.out.rows.heaps.lt k e).1); obtain ⟨A', c', rfl, hP'⟩ := hP; have z3 : w1.cell? ⟨w.heap.size + 1 + 1, 3, none⟩ = some (.slice t.ha t.heaps.length t.hc) := (six_cells hlay.obj).2.2.2.1; have f3 : w1.frozen? ⟨w.heap.size + 1 + 1, 3, none⟩ = false := frozen_of_row w1 _ 3 _ _ hlay.obj; replace hlay := Lib.hid hlay; clear hown hgrow hnear hown'; replace hP' := Lib.hid hP')
      exact ⟨⟨j + 1, _, by go_num, by omega, hP'⟩, by simp only [intOf]; omega⟩
    · obtain rfl : j = s.heaps.length := by omega
      obtain ⟨o0, o1, o2, o3, o4, o5⟩ := six_cells hI.out.lay.obj
      obtain ⟨d0, d1, d2, d3, d4, d5⟩ := cells6 hI.out.lay.out
      have hfz2 : ∀ j, wr.frozen? ⟨w.heap.size + 1, j, none⟩ = false := fun j => frozen_of_row wr _ j _ _ hI.out.lay.out
      have f0 := hfz2 0
      have f1 := hfz2 1
      have f2 := hfz2 2
      have f3 := hfz2 3
      have f4 := hfz2 4
      have f5 := hfz2 5
      clear hfz2
      go_wp2_with fail
      have hx := hI.out.lay.out
      refine bodyPost_ret (results_cell_row rfl _ _ (w.heap.size + 1) 43 _ (0, 0) _ rfl (set6 _ _ _ _ _ _ hI.out.lay.out) Try.underlying43 rfl (by kernel_rfl)) rfl ?_
      have hR := hI.out.rows
      have hz := hI.out.lay.size
      have hput := (hR.loose (Nat.le_refl _)).put6 (b := w.heap.size + 1) (by omega) (fun k hk => ?_) (.int .i64 t.year) (.slice t.la t.last.length t.lc) (.slice t.ga t.given.length t.gc) (.slice t.ha t.heaps.length t.hc) (.slice t.ua t.used.length t.uc) (.slice t.wa t.waste.length t.wc)
      refine ⟨t, rfl, ⟨hI.out.year.symm, hI.out.last.symm, hI.out.given.symm, ?_, hI.out.used.symm, hI.out.waste.symm⟩, hput.loose (by omega), set6_below _ _ _ _ _ _ hI.out.lay.below (by omega)⟩
      · have := hI.out.heaps
        rw [List.take_length] at this
        exact this.symm
      · rcases hk with e | e | e | e
        · have := (hR.lastLt e).1; omega
        · have := (hR.givenLt e).1; omega
        · have := (hR.heapsLt e).1; omega
        · exact hR.apart6 (c1 := (none, 0, 0)) (c2 := (none, 0, 0)) (c3 := (none, 0, 0)) (c4 := (none, 0, 0)) (c5 := (none, 0, 0)) hx e
end Go.Proofs.Ytpgkhlpepckfgaa
end
section
namespace Go.Proofs.Ytpgkhlpepckfgaa
open Go.RowKit Go.Lib

theorem DoG.total0 {pl : List Plot} {dry : Int} {s : Store} (h : DoG pl dry s) : 0 ≤ totalS s := by
  have h1 := h.used.sum.1
  have h2 := h.waste.sum.1
  have h3 := leftL_le (l := s.heaps) 0 fun y hy p hp => ((h.heaps.2 y hy).2 p hp).1
  unfold totalS; omega
theorem sum_sumN (l : List Int) : ∀ k, k ≤ l.length → (l.take k).sum = sumN (fun i => l.getD i 0) k
  | 0, _ => by simp [sumN]
  | k + 1, hk => by
    rw [List.take_succ_eq_append_getElem (by omega), List.sum_append, sum_sumN l k (by omega)]
    rw [sumN, getD_lt _ (show k < l.length by omega)]
    simp
theorem DoG.given_sum {pl : List Plot} {dry : Int} {s : Store} (h : DoG pl dry s) : s.given.sum = totalS s := by
  have hs := h.store
  rw [storeB_eq, Bool.and_eq_true, Bool.and_eq_true, Bool.and_eq_true] at hs
  have hh := hs.1.1.1
  simp only [storeHead, Bool.and_eq_true, decide_eq_true_eq] at hh
  have h1 := sum_sumN s.given s.given.length (Nat.le_refl _)
  rw [List.take_length] at h1
  rw [h1, h.given, ← fieldSum_total (pl := pl) hh.1.2 hh.2 (fun j hj => allB_get hs.1.1.2 hj)]
  refine sumN_mono _ fun i hi => ?_
  have := allB_get hs.2 hi
  simp only [fieldAt, Bool.and_eq_true, decide_eq_true_eq] at this
  rw [this.2]
  unfold fieldSum
  omega
end Go.Proofs.Ytpgkhlpepckfgaa
end
section
namespace Go.Proofs.Ytpgkhlpepckfgaa
open Go.RowKit Go.Lib
theorem neq_chore (x y : Chore) (w : World) : (binOp .neq 64 (choreVal x) (choreVal y)).run Try.prog w = .ok (.bool (!sameChore x y)) w := by
  have e := eql_chore x y w
  have e1 : binOp .eql 64 (choreVal x) (choreVal y) = Op.equal 64 (choreVal x) (choreVal y) >>= fun b => pure (.bool b) := rfl
  have e2 : binOp .neq 64 (choreVal x) (choreVal y) = Op.equal 64 (choreVal x) (choreVal y) >>= fun b => pure (.bool (!b)) := rfl
  rw [e1] at e
  rw [e2]
  revert e
  rw [Sem.run_bind, Sem.run_bind]
  cases h : (Op.equal 64 (choreVal x) (choreVal y)).run Try.prog w <;> simp [Result.andThen]
end Go.Proofs.Ytpgkhlpepckfgaa
end
