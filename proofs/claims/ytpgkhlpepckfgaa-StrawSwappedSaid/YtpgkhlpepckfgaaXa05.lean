/-
  A map that the call itself made, told by what its look-ups answer; no program is named here. Append to a slice of the call's own, told with where the row behind it lies. No program is named here. straw.Check and its specification's, walked.
-/
import Derived.Test.YtpgkhlpepckfgaaXa04
import Derived.Below
import Derived.Carry
import Derived.Maps.Keyed
import Derived.Maps.OwnSet
import Derived.OwnWalk
set_option linter.all false
set_option linter.unusedVariables false
set_option linter.unusedSimpArgs false
section
namespace Go.Proofs.Ytpgkhlpepckfgaa
open Go.Maps (Keyed)
open Go.RowKit Go.MapKept Go.WideElems Go.ChangeMaps

/-- Block b is a map of at most n entries (keys of type k); its look-ups answer as m says. -/
def MapIs (w : World) (P : Program) (k : TypeId) (b n : Nat) (m : Value → Option Value) : Prop :=
  ∃ es clock, w.heap[b]? = some (.map es clock) ∧ es.size ≤ n ∧
    (∀ e ∈ es.toList, (∃ l, keyOf P k e.key = some l) ∧ m e.key = some e.val) ∧
    (∀ key l v, keyOf P k key = some l → m key = some v → ∃ e ∈ es.toList, e.key = key) ∧
    es.toList.Pairwise (fun x y => x.key ≠ y.key)

section
variable {P : Program} {k : TypeId} {w : World} {b n : Nat} {m : Value → Option Value}

theorem MapIs.made (w : World) (P : Program) (k : TypeId) : MapIs (w.alloc (.map #[] 0)) P k w.heap.size 0 (fun _ => none) :=
  ⟨#[], 0, (MapKept.heap_alloc w _).1, Nat.le_refl _, by simp, by simp, by simp⟩

theorem MapIs.made' (w : World) (P : Program) (k : TypeId) {b : Nat} (hb : b = w.heap.size) : MapIs (w.alloc (.map #[] 0)) P k b 0 (fun _ => none) := by rw [hb]; exact MapIs.made w P k

theorem MapIs.mono (h : MapIs w P k b n m) {n' : Nat} (hn : n ≤ n') : MapIs w P k b n' m := by
  obtain ⟨es, c, h1, h2, h3⟩ := h
  exact ⟨es, c, h1, Nat.le_trans h2 hn, h3⟩

theorem MapIs.ext (h : MapIs w P k b n m) {m' : Value → Option Value} (hm : ∀ key l, keyOf P k key = some l → m' key = m key) : MapIs w P k b n m' := by
  obtain ⟨es, c, h1, h2, h3, h4, h5⟩ := h
  refine ⟨es, c, h1, h2, fun e he => ?_, fun key l v hk hv => h4 key l v hk (by rw [← hm key l hk]; exact hv), h5⟩
  obtain ⟨⟨l, hl⟩, hv⟩ := h3 e he
  exact ⟨⟨l, hl⟩, by rw [hm _ l hl]; exact hv⟩

theorem MapIs.same (h : MapIs w P k b n m) {w' : World} (he : w'.heap[b]? = w.heap[b]?) : MapIs w' P k b n m := by
  obtain ⟨es, c, h1, h2⟩ := h
  exact ⟨es, c, he.trans h1, h2⟩

theorem MapIs.lt (h : MapIs w P k b n m) : b < w.heap.size := by
  obtain ⟨es, c, hb, _⟩ := h
  exact (Array.getElem?_eq_some_iff.1 hb).1

theorem MapIs.kept {w' : World} {row : Option Nat} (h : MapIs w P k b n m) (hg : w.grownBy w' row) (hne : some b ≠ row) : MapIs w' P k b n m :=
  h.same (hg.block b h.lt hne)

theorem MapIs.below {w' : World} {B : Nat} (h : MapIs w P k b n m) (hb : Below B w w') (hB : b < B) : MapIs w' P k b n m :=
  h.same (hb.block b hB)

theorem MapIs.alloc (h : MapIs w P k b n m) (o : Obj) : MapIs (w.alloc o) P k b n m :=
  h.kept (World.grownBy_alloc w o none) (by simp)

theorem MapIs.drew (h : MapIs w P k b n m) : MapIs w.drew P k b n m := h

/-- A look-up: the world stays; the value, or the zero value. -/
theorem MapIs.lookup (h : MapIs w P k b n m) {t e : TypeId} (K : Keyed P k) (ht : P.underlying t = some (.map k e)) {z : Value} (hz : (zeroValue e).run P w = .ok z w)
    {key : Value} {kl : Lit} (hkey : keyOf P k key = some kl) (c : Bool) :
    (Instr.lookup t (.map (some b)) key c).run P w = .ok (if c then .tuple #[(m key).getD z, .bool (m key).isSome] else (m key).getD z) w := by
  obtain ⟨es, clock, hb, _, h3, h4, _⟩ := h
  have hall : ∀ e ∈ es.toList, ∃ l, keyOf P k e.key = some l := fun e he => (h3 e he).1
  rcases K.find w hkey es.toList hall with ⟨hrun, hno⟩ | ⟨j, e0, hrun, hj, hk0⟩
  · have hm : m key = none := by
      cases hv : m key with
      | none => rfl
      | some v => obtain ⟨e', he', hk'⟩ := h4 key kl v hkey hv; exact absurd hk' (hno e' he')
    simp [Instr.lookup, run_underlying ht, MapKept.run_getObj_map hb, K.check w _ hkey, hrun, hz, hm, Result.andThen]
  · have he0 : e0 ∈ es.toList := List.mem_of_getElem? hj
    have hm : m key = some e0.val := by rw [← hk0]; exact (h3 e0 he0).2
    simp [Instr.lookup, run_underlying ht, MapKept.run_getObj_map hb, K.check w _ hkey, hrun, hm, Result.andThen]

/-- A store. -/
theorem MapIs.update (h : MapIs w P k b n m) {t e : TypeId} (K : Keyed P k) (ht : P.underlying t = some (.map k e)) {key val : Value} {kl : Lit} (hkey : keyOf P k key = some kl)
    {m' : Value → Option Value} (hm1 : m' key = some val) (hm2 : ∀ x l, keyOf P k x = some l → x ≠ key → m' x = m x) :
    ∃ w', (Instr.mapUpdate t (.map (some b)) key val).run P w = .ok () w' ∧ MapIs w' P k b (n + 1) m' ∧ w.grownBy w' (some b) ∧ w'.heap.size = w.heap.size := by
  obtain ⟨es, clock, hb, hn, h3, h4, h5⟩ := h
  have hall : ∀ e ∈ es.toList, ∃ l, keyOf P k e.key = some l := fun e he => (h3 e he).1
  have hgr : ∀ o, w.grownBy (ChangeMaps.setBlock w b o) (some b) := fun o =>
    ⟨rfl, rfl, rfl, by simp [ChangeMaps.setBlock], fun i _ hi => ChangeMaps.heap_setBlock_other hb _ (fun e => hi (by rw [e]))⟩
  have hss : ∀ o, (ChangeMaps.setBlock w b o).heap.size = w.heap.size := fun o => by simp [ChangeMaps.setBlock]
  rcases K.find w hkey es.toList hall with ⟨hrun, hno⟩ | ⟨j, e0, hrun, h2, hk0⟩
  · refine ⟨_, by simp [Instr.mapUpdate, run_underlying ht, MapKept.run_getObj_map hb, K.check w false hkey, hrun, MapKept.run_setObj_map _ hb, Result.andThen]; rfl,
      ⟨es.push ⟨key, val, clock⟩, clock + 1, ChangeMaps.heap_setBlock_same hb _, by simp; omega, ?_, ?_, ?_⟩, hgr _, hss _⟩
    · intro x hx
      simp only [Array.toList_push, List.mem_append, List.mem_singleton] at hx
      rcases hx with hx | rfl
      · obtain ⟨l, hl⟩ := (h3 x hx).1
        exact ⟨⟨l, hl⟩, by rw [hm2 _ l hl (hno x hx)]; exact (h3 x hx).2⟩
      · exact ⟨⟨kl, hkey⟩, hm1⟩
    · intro x l v hx hv
      by_cases he : x = key
      · exact ⟨⟨key, val, clock⟩, by simp, he.symm⟩
      · rw [hm2 x l hx he] at hv
        obtain ⟨e', he', hk'⟩ := h4 x l v hx hv
        exact ⟨e', by simp [he'], hk'⟩
    · rw [Array.toList_push, List.pairwise_append]
      exact ⟨h5, by simp, fun x hx y hy => by simp at hy; subst hy; exact hno x hx⟩
  · have hj : es[j]? = some e0 := by simpa using h2
    have hlist : (es.modify j (fun e' => { e' with key := key, val := val })).toList = es.toList.set j { e0 with key := key, val := val } := by rw [Array.toList_modify, modify_eq_set _ _ _ _ h2]
    have hjl : j < es.toList.length := (List.getElem?_eq_some_iff.1 h2).1
    have who : ∀ x ∈ es.toList.set j { e0 with key := key, val := val }, x = { e0 with key := key, val := val } ∨ (x ∈ es.toList ∧ x.key ≠ key) := by
      intro x hx
      obtain ⟨i, hi, ex⟩ := List.getElem_of_mem hx
      rw [List.getElem_set] at ex
      split at ex
      · exact Or.inl ex.symm
      · rename_i hne
        have hi' : i < es.toList.length := by simpa using hi
        have he0 : es.toList[j] = e0 := by rw [List.getElem?_eq_getElem hjl] at h2; exact Option.some.inj h2
        refine Or.inr ⟨ex ▸ List.getElem_mem hi', ?_⟩
        rw [← hk0, ← ex]
        intro e
        have hee : es.toList[i].key = es.toList[j].key := e.trans (congrArg MapEntry.key he0.symm)
        rcases Nat.lt_or_gt_of_ne hne with hh | hh
        · exact List.pairwise_iff_getElem.1 h5 j i hjl hi' hh hee.symm
        · exact List.pairwise_iff_getElem.1 h5 i j hi' hjl hh hee
    refine ⟨_, by simp [Instr.mapUpdate, run_underlying ht, MapKept.run_getObj_map hb, K.check w false hkey, hrun, hj, hk0, K.stays w hkey, MapKept.run_setObj_map _ hb, Result.andThen]; rfl,
      ⟨es.modify j (fun e' => { e' with key := key, val := val }), clock, ChangeMaps.heap_setBlock_same hb _, by simp; omega, ?_, ?_, ?_⟩, hgr _, hss _⟩
    · intro x hx
      rw [hlist] at hx
      rcases who x hx with rfl | ⟨hx', hne⟩
      · exact ⟨⟨kl, hkey⟩, hm1⟩
      · obtain ⟨l, hl⟩ := (h3 x hx').1
        exact ⟨⟨l, hl⟩, by rw [hm2 _ l hl hne]; exact (h3 x hx').2⟩
    · intro x l v hx hv
      rw [hlist]
      by_cases he : x = key
      · exact ⟨{ e0 with key := key, val := val }, List.mem_iff_getElem.2 ⟨j, by simpa using hjl, by simp⟩, he.symm⟩
      · rw [hm2 x l hx he] at hv
        obtain ⟨e', he', hk'⟩ := h4 x l v hx hv
        obtain ⟨i, hi, ei⟩ := List.getElem_of_mem he'
        refine ⟨e', List.mem_iff_getElem.2 ⟨i, by simpa using hi, ?_⟩, hk'⟩
        rw [List.getElem_set, if_neg, ei]
        rintro rfl
        have he0 : es.toList[j] = e0 := by rw [List.getElem?_eq_getElem hjl] at h2; exact Option.some.inj h2
        rw [he0] at ei
        rw [← ei] at hk'
        exact he (hk'.symm.trans hk0)
    · rw [hlist]
      have : (es.toList.set j { e0 with key := key, val := val }).map (·.key) = es.toList.map (·.key) := by
        rw [List.map_set]
        apply List.ext_getElem (by simp)
        intro i h1 h2'
        rw [List.getElem_set]
        split
        · rename_i e; subst e
          have he0 : es.toList[j] = e0 := by rw [List.getElem?_eq_getElem hjl] at h2; exact Option.some.inj h2
          simp [he0, hk0]
        · rfl
      have hp := List.pairwise_map.2 h5
      rw [← this] at hp
      exact List.pairwise_map.1 hp
end

section
variable {P : Program} (w : World) {ops : Array Oper} {rest : List Oper} {o : Oper} {a : Act} {Q : Exit → Act → World → Prop}

/-- The look-up at the operation, for the walk. -/
theorem wp_look (hg : o.guard = none) (mo x : Operand) (t : TypeId) (hop : o.op = Op.lookup t mo x false)
    (k e : TypeId) (K : Keyed P k) (ht : P.underlying t = some (.map k e)) (z : Value) (hz : (zeroValue e).run P w = .ok z w) (b n : Nat) (m : Value → Option Value)
    (hm : a.eval mo = .map (some b)) (hown : MapIs w P k b n m) (key : Value) (kl : Lit) (hx : a.eval x = key) (hkey : keyOf P k key = some kl)
    (v : Value) (hv : (m key).getD z = v) (hK : wpList P ops Q rest (a.put o.dst v) w) :
    wpList P ops Q (o :: rest) a w := by
  refine wpList_plain hg fun K' hK' => ?_
  have hrun := hown.lookup K ht hz hkey false
  subst hv
  unfold Oper.wp
  simp [execOp, hop, hm, hx, hrun, Result.andThen]
  exact hK' _ _ hK

theorem wp_look_ok (hg : o.guard = none) (mo x : Operand) (t : TypeId) (hop : o.op = Op.lookup t mo x true)
    (k e : TypeId) (K : Keyed P k) (ht : P.underlying t = some (.map k e)) (z : Value) (hz : (zeroValue e).run P w = .ok z w) (b n : Nat) (m : Value → Option Value)
    (hm : a.eval mo = .map (some b)) (hown : MapIs w P k b n m) (key : Value) (kl : Lit) (hx : a.eval x = key) (hkey : keyOf P k key = some kl)
    (hK : wpList P ops Q rest (a.put o.dst (.tuple #[(m key).getD z, .bool (m key).isSome])) w) :
    wpList P ops Q (o :: rest) a w := by
  refine wpList_plain hg fun K' hK' => ?_
  have hrun := hown.lookup K ht hz hkey true
  unfold Oper.wp
  simp [execOp, hop, hm, hx, hrun, Result.andThen]
  exact hK' _ _ hK

/-- The store at the operation (m[k] = v), for the walk. -/
theorem wp_store (hg : o.guard = none) (mo x v : Operand) (t : TypeId) (hop : o.op = Op.mapUpdate t mo x v ∨ o.op = Op.insert t mo x v)
    (k e : TypeId) (K : Keyed P k) (ht : P.underlying t = some (.map k e)) (b n : Nat) (m : Value → Option Value)
    (hm : a.eval mo = .map (some b)) (hown : MapIs w P k b n m) (key val : Value) (kl : Lit) (hx : a.eval x = key) (hv : a.eval v = val) (hkey : keyOf P k key = some kl)
    (m' : Value → Option Value) (hm1 : m' key = some val) (hm2 : ∀ x l, keyOf P k x = some l → x ≠ key → m' x = m x)
    (hK : ∀ w', MapIs w' P k b (n + 1) m' → w.grownBy w' (some b) → wpList P ops Q rest (a.put o.dst undef) w') :
    wpList P ops Q (o :: rest) a w := by
  refine wpList_plain hg fun K' hK' => ?_
  obtain ⟨w', hrun, r1, r2, _⟩ := hown.update K ht hkey hm1 hm2
  unfold Oper.wp
  rcases hop with hop | hop <;> simp [execOp, hop, hm, hx, hv, hrun, Result.andThen] <;> exact hK' _ _ (hK w' r1 r2)

/-- One entry of a map's literal. -/
theorem wp_insert (hg : o.guard = none) (mo x v : Operand) (t : TypeId) (hop : o.op = Op.insert t mo x v)
    (k e : TypeId) (K : Keyed P k) (ht : P.underlying t = some (.map k e)) (b n : Nat) (m : Value → Option Value)
    (hm : a.eval mo = .map (some b)) (hown : MapIs w P k b n m) (key val : Value) (kl : Lit) (hx : a.eval x = key) (hv : a.eval v = val) (hkey : keyOf P k key = some kl)
    (m' : Value → Option Value) (hm1 : m' key = some val) (hm2 : ∀ x l, keyOf P k x = some l → x ≠ key → m' x = m x)
    (hK : ∀ w', MapIs w' P k b (n + 1) m' → w.grownBy w' (some b) → w'.heap.size = w.heap.size → wpList P ops Q rest (a.put o.dst undef) w') :
    wpList P ops Q (o :: rest) a w := by
  refine wpList_plain hg fun K' hK' => ?_
  obtain ⟨w', hrun, r1, r2, r3⟩ := hown.update K ht hkey hm1 hm2
  unfold Oper.wp
  simp [execOp, hop, hm, hx, hv, hrun, Result.andThen]
  exact hK' _ _ (hK w' r1 r2 r3)
end
end Go.Proofs.Ytpgkhlpepckfgaa
end
section
namespace Go.Proofs.Ytpgkhlpepckfgaa
open Go.RowKit

section
variable {P : Program} (w : World)

theorem run_append_near (base : Nat) (t ty e : TypeId) (i : TypeInfo) (z : Value) (size bytes : Nat) (ht : P.underlying t = some (.slice e)) (hi : P.info? e = some i) (hz : i.zero = some z)
    (hsize : i.size = size) (hby : i.bytes = bytes) (hzs : z.cells.size = size) (hsz : 0 < size)
    (v : Value) (n : Nat) (xs : List Value) (hown : w.ownsRow base e size v n xs)
    (a : Addr) (m c : Nat) (news : List Value) (hl : news.length = m * size) (hnews : ∀ j u, news[j]? = some u → w.cell? (a.add j) = some u) (h1 : ∀ u ∈ news, u.oneCell' = true)
    (h63 : n + m ≤ maxLen) (hbytes : (n + m) * bytes ≤ 140737488355328) (hbase : base ≤ w.heap.size) :
    ∃ v' w', (Builtin.append_ #[t, t] ty #[v, .slice (some a) m c]).run P w = .ok v' w' ∧ w'.ownsRow base e size v' (n + m) (xs ++ news) ∧ w.grownBy w' v.ownBlock ∧
      (∀ k, v'.ownBlock = some k → v.ownBlock = some k ∨ w.heap.size ≤ k) := by
  rcases hown.2 with ⟨rfl, rfl⟩ | ⟨g, cap, cur, rfl, hbg, hg, hnc, hcm, hcs, htake⟩
  · have hx : xs = [] := List.eq_nil_of_length_eq_zero (by simpa using hown.1)
    subst hx
    obtain ⟨v', w', hr, h2, h3, _⟩ := run_append_own (P := P) w w.heap.size t ty e i z size bytes ht hi hz hsize hby hzs hsz _ 0 [] (World.ownsRow_nil w _ e size) a m c news hl hnews h1 h63 hbytes (Nat.le_refl _)
    refine ⟨v', w', hr, ⟨h2.1, ?_⟩, h3, fun k hk => .inr (h2.lt k hk).1⟩
    rcases h2.2 with h | ⟨g', cap', cur', hv, hg', r⟩
    · exact .inl h
    · exact .inr ⟨g', cap', cur', hv, Nat.le_trans hbase hg', r⟩
  · obtain ⟨v', w', hr, h2, h3, _⟩ := run_append_own (P := P) w base t ty e i z size bytes ht hi hz hsize hby hzs hsz _ n xs hown a m c news hl hnews h1 h63 hbytes hbase
    refine ⟨v', w', hr, h2, h3, fun k hk => ?_⟩
    subst hsize
    subst hby
    by_cases hroom : n + m ≤ cap
    · have hfit : n * i.size + news.length ≤ cur.size := by rw [hl, hcs, ← Nat.add_mul]; exact Nat.mul_le_mul_right _ hroom
      have hr2 := run_append_room (P := P) w t ty e i ht hi g n cap cur hg a m c news hl hnews h1 hroom hfit
      rw [hr] at hr2
      simp only [Result.ok.injEq] at hr2
      rw [hr2.1] at hk
      exact .inl hk
    · have hsmall : n + m ≤ 9223372036854775807 := by simp only [maxLen] at h63; omega
      have hr2 := run_append_grow (P := P) w t ty e i z ht hi hz ⟨g, 0, none⟩ n cap xs hown.1 (hown.cells (g := g) rfl) a m c news hl hnews (by omega) (by omega) (growslice_fits (by omega) hbytes)
      rw [hr] at hr2
      simp only [Result.ok.injEq] at hr2
      rw [hr2.1] at hk
      simp [Value.ownBlock] at hk
      exact .inr (by omega)

/-- append at the operation, for the walk: the row lies where it lay, or in a new block. -/
theorem wp_app {ops : Array Oper} {rest : List Oper} {o : Oper} {a : Act} {Q : Exit → Act → World → Prop} (hgd : o.guard = none) (s x : Operand) (t : TypeId)
    (ho : o.op = .call { callee := .builtin .append, args := #[s, x], argTypes := #[t, t] })
    (base : Nat) (e : TypeId) (size bytes : Nat) (ht : P.underlying t = some (.slice e)) {z : Value} (hinfo : (P.info? e).map (fun i => (i.zero, i.size, i.bytes)) = some (some z, size, bytes)) (hzs : z.cells.size = size) (hsz : 0 < size)
    (v : Value) (n : Nat) (xs : List Value) (hs : a.eval s = v) (hown : w.ownsRow base e size v n xs)
    (ad : Addr) (m c : Nat) (news : List Value) (hx : a.eval x = .slice (some ad) m c) (hl : news.length = m * size) (hnews : ∀ j u, news[j]? = some u → w.cell? (ad.add j) = some u) (h1 : ∀ u ∈ news, u.oneCell' = true)
    (h63 : n + m ≤ maxLen) (hbytes : (n + m) * bytes ≤ 140737488355328) (hbase : base ≤ w.heap.size)
    (h : ∀ v' w', w'.ownsRow base e size v' (n + m) (xs ++ news) → w.grownBy w' v.ownBlock → (∀ k, v'.ownBlock = some k → v.ownBlock = some k ∨ w.heap.size ≤ k) → wpList P ops Q rest (a.put o.dst v') w') : wpList P ops Q (o :: rest) a w :=
  wpList_plain hgd fun _ hK => by
    obtain ⟨i, hi, hzz⟩ := Option.map_eq_some_iff.1 hinfo
    simp only [Prod.mk.injEq] at hzz
    obtain ⟨hz, hsize, hby⟩ := hzz
    obtain ⟨v', w', hr, h2, h3, h4⟩ := run_append_near (P := P) w base t o.type e i z size bytes ht hi hz hsize hby hzs hsz v n xs hown ad m c news hl hnews h1 h63 hbytes hbase
    unfold Oper.wp execOp
    simp only [ho, resolve, invoke, builtin, Sem.run_bind, Sem.run_pure, Result.andThen_ok, List.map_toArray, List.map_cons, List.map_nil, hs, hx, hr]
    exact hK _ _ (h v' w' h2 h3 h4)
end

theorem ownsRow_raise {w : World} {base base' : Nat} {e : TypeId} {size n : Nat} {v : Value} {xs : List Value} (h : w.ownsRow base e size v n xs) (hb : base' ≤ base) : w.ownsRow base' e size v n xs := by
  obtain ⟨h1, h2⟩ := h
  refine ⟨h1, ?_⟩
  rcases h2 with h | ⟨g, cap, cur, hv, hg, r⟩
  · exact .inl h
  · exact .inr ⟨g, cap, cur, hv, Nat.le_trans hb hg, r⟩

theorem row_succ {W : World} {base : Nat} {e : TypeId} {size : Nat} {v : Value} {k : Nat} {xs : List Value} (h : W.ownsRow base e size v (k + 1) xs) : ∃ g cap, v = .slice (some ⟨g, 0, none⟩) (k + 1) cap ∧ k + 1 ≤ cap ∧ cap ≤ maxLen := by
  rcases h.2 with ⟨_, h0⟩ | ⟨g, cap, _, rfl, _, _, h1, h2, _⟩
  · omega
  · exact ⟨g, cap, rfl, h1, h2⟩

/-- A row whose block lies as it lay. -/
theorem ownsRow_same {w w1 : World} {base : Nat} {e : TypeId} {size n : Nat} {v : Value} {xs : List Value} (h : w.ownsRow base e size v n xs) (hs : ∀ k, v.ownBlock = some k → w1.heap[k]? = w.heap[k]?) : w1.ownsRow base e size v n xs := by
  obtain ⟨h1, h2⟩ := h
  refine ⟨h1, ?_⟩
  rcases h2 with h | ⟨g, cap, cur, rfl, hg, hh, r⟩
  · exact .inl h
  · exact .inr ⟨g, cap, cur, rfl, hg, (hs g rfl).trans hh, r⟩
end Go.Proofs.Ytpgkhlpepckfgaa
end
section
namespace Go.Proofs.Ytpgkhlpepckfgaa
open Go.RowKit Go.Lib Go.Maps Go.WideMaps

theorem zeroBool (w : World) : (zeroValue 4).run Try.prog w = .ok (.bool false) w := by kernel_rfl

set_option maxHeartbeats 1000000 in
set_option maxRecDepth 100000 in
theorem check_any (A : Option Addr) (c : Nat) (l : List Plot) (dry : Int) (w : World) (h : RdPlots w A l) :
    Calls Try.prog 25 #[.agg #[.slice A l.length c, .int .i64 dry]] w fun e w' => e = .returned (.int .i64 (checkI l dry)) ∧ Below w.heap.size w w' := by
  have hl := h.1.1
  have hmm := @run_makeMap Try.prog
  by_cases hlong : 12 < l.length
  · have hR := Lib.hid (checkI_long (dry := dry) hlong)
    have hlong' : 12 < (l.length : Int) := by omega
    go_enter Try.func25, Try.ntmps25
    go_wp2
    go_ret
    exact ⟨by rw [hR.out]; rfl, (Below.refl _ _).alloc (Nat.le_refl _) _⟩
  · have hlong' : ¬ 12 < (l.length : Int) := by omega
    go_enter Try.func25, Try.ntmps25
    go_wp2
    clear hlong'
    go_loopw [14] (fun i wr => ∃ k : Nat, i = .int .i64 k ∧ k ≤ l.length ∧ Hid (∀ j, j < k → plotErr l j = 0) ∧ wr.cell? ⟨w.heap.size, 0, none⟩ = some (.slice A l.length c) ∧ wr.cell? ⟨w.heap.size, 1, none⟩ = some (.int .i64 dry) ∧ w.heap.size + 1 < wr.heap.size ∧
      MapIs wr Try.prog 9 (w.heap.size + 1) k (knownM l k) ∧ Below w.heap.size w wr) (fun i _ => l.length - (intOf i).toNat)
    case atStart => exact ⟨0, rfl, by omega, fun j hj => by omega, by simp, by simp, by simp, by rw [knownM_zero]; exact MapIs.made' _ _ _ (by simp), ((Below.refl _ w).alloc (Nat.le_refl _) _).alloc (by simp) _⟩
    case round =>
      obtain ⟨k, rfl, hk, hall, hc0, hc1, hsz, hmap, hB⟩ := hrel
      by_cases hlt : k < l.length
      · obtain ⟨ad, hA, g0, g1, g2, g3, g4, g5, g6, g7, g8⟩ := (h.1.below hB).at9 hlt rfl
        subst hA
        have hn1 := h.name hlt
        have hKey := Lib.hid (keyOf_string_mk Try.underlying9 (s := l[k].name) (Nat.le_trans hn1 (by decide)))
        have hmap := Lib.hid hmap
        cases q1 : nameB l[k].name with
        | false =>
          have hE := Lib.hid (checkI_stop (dry := dry) hlong hlt hall.out (by rw [plotErr_name hlt q1]; decide))
          have hE2 := Lib.hid (plotErr_name hlt q1)
          go_wp2_with (go_at_call 53; refine (isName_any _ _ (by omega)).mono ?_; rintro e w1 ⟨rfl, hb1⟩; obtain ⟨hk1, hf1⟩ := bcell hb1)
          go_ret
          exact ⟨by rw [hE.out, hE2.out]; rfl, hB.trans (((Below.refl _ wr).alloc (Nat.le_refl _) _).trans (hb1.mono (by simp)) |>.mono hB.size)⟩
        | true =>
          cases q2 : hasName l k l[k].name with
          | true =>
            have hE := Lib.hid (checkI_stop (dry := dry) hlong hlt hall.out (by rw [plotErr_twice hlt q1 q2]; decide))
            have hE2 := Lib.hid (plotErr_twice hlt q1 q2)
            have hL := Lib.hid (knownM_get l k l[k].name)
            go_wp2_with (first | (go_at_call 53; refine (isName_any _ _ (by omega)).mono ?_; rintro e w1 ⟨rfl, hb1⟩; obtain ⟨hk1, hf1⟩ := bcell hb1; have hB1 : Below wr.heap.size wr w1 := ((Below.refl _ wr).alloc (Nat.le_refl _) _).trans (hb1.mono (by simp))) | (at_lookup; refine wp_look _ rfl _ _ 102 rfl 9 4 (string_keyed Try.underlying9) Try.underlying102 (.bool false) (zeroBool _) (w.heap.size + 1) k (knownM l k) rfl (hmap.out.below hB1 hsz) (.string l[k].name) _ rfl hKey.out _ hL.out ?_))
            go_ret
            exact ⟨by rw [hE.out, hE2.out]; rfl, hB.trans (hB1.mono hB.size)⟩
          | false =>
            cases q3 : plotOk l[k] with
            | false =>
              have hE := Lib.hid (checkI_stop (dry := dry) hlong hlt hall.out (by rw [plotErr_arg hlt q1 q2 q3]; decide))
              have hE2 := Lib.hid (plotErr_arg hlt q1 q2 q3)
              have hL := Lib.hid (knownM_get l k l[k].name)
              have q3 := Lib.hid q3
              go_wp2_with (first | (go_at_call 53; refine (isName_any _ _ (by omega)).mono ?_; rintro e w1 ⟨rfl, hb1⟩; obtain ⟨hk1, hf1⟩ := bcell hb1; have hB1 : Below wr.heap.size wr w1 := ((Below.refl _ wr).alloc (Nat.le_refl _) _).trans (hb1.mono (by simp)); have hz1 : wr.heap.size < w1.heap.size := by have := hb1.size; simp at this; omega) | (go_at_call 43; refine (in_any _ _ _ _).mono ?_; rintro e w' ⟨rfl, rfl⟩) | (go_at_call 54; refine (grows_any _ _).mono ?_; rintro e w' ⟨rfl, rfl⟩) | (go_at_call 55; refine (spans_any _ _ _ _ _).mono ?_; rintro e w2 ⟨rfl, hb2⟩; obtain ⟨hk2, hf2⟩ := bcell hb2; replace hB1 := hB1.trans (hb2.mono hB1.size); have hz2 := Nat.lt_of_lt_of_le (n := wr.heap.size) (by assumption) hb2.size) | (at_lookup; refine wp_look _ rfl _ _ 102 rfl 9 4 (string_keyed Try.underlying9) Try.underlying102 (.bool false) (zeroBool _) (w.heap.size + 1) k (knownM l k) rfl (hmap.out.below hB1 hsz) (.string l[k].name) _ rfl hKey.out _ hL.out ?_))
              all_goals first
                | (exfalso; have q := q3.out; simp_all [plotOk]; done)
                | (go_ret; exact ⟨by rw [hE.out, hE2.out]; rfl, hB.trans (hB1.mono hB.size)⟩)
            | true =>
              have hS := Lib.hid (below_succ hall.out (plotErr_ok hlt q1 q2 q3))
              have hL := Lib.hid (knownM_get l k l[k].name)
              have hP1 := Lib.hid (knownM_put l k hlt)
              have hP2 := Lib.hid (knownM_other l k hlt)
              simp only [plotOk, Bool.and_eq_true] at q3
              obtain ⟨⟨⟨⟨⟨t1, t2⟩, t3⟩, t4⟩, t5⟩, t6⟩ := q3
              go_wp2_with (first | (go_at_call 53; refine (isName_any _ _ (by omega)).mono ?_; rintro e w1 ⟨rfl, hb1⟩; obtain ⟨hk1, hf1⟩ := bcell hb1; have hB1 : Below wr.heap.size wr w1 := ((Below.refl _ wr).alloc (Nat.le_refl _) _).trans (hb1.mono (by simp)); have hz1 : wr.heap.size < w1.heap.size := by have := hb1.size; simp at this; omega) | (go_at_call 43; refine (in_any _ _ _ _).mono ?_; rintro e w' ⟨rfl, rfl⟩) | (go_at_call 54; refine (grows_any _ _).mono ?_; rintro e w' ⟨rfl, rfl⟩) | (go_at_call 55; refine (spans_any _ _ _ _ _).mono ?_; rintro e w2 ⟨rfl, hb2⟩; obtain ⟨hk2, hf2⟩ := bcell hb2; replace hB1 := hB1.trans (hb2.mono hB1.size); have hz2 := Nat.lt_of_lt_of_le (n := wr.heap.size) (by assumption) hb2.size) | (at_lookup; refine wp_look _ rfl _ _ 102 rfl 9 4 (string_keyed Try.underlying9) Try.underlying102 (.bool false) (zeroBool _) (w.heap.size + 1) k (knownM l k) rfl (hmap.out.below hB1 hsz) (.string l[k].name) _ rfl hKey.out _ hL.out ?_) | (at_mapUpdate; refine wp_store _ rfl _ _ _ 102 (.inl rfl) 9 4 (string_keyed Try.underlying9) Try.underlying102 (w.heap.size + 1) k (knownM l k) rfl (hmap.out.below hB1 hsz) (.string l[k].name) _ _ rfl rfl hKey.out (knownM l (k + 1)) hP1.out (fun x _ _ hx => hP2.out x hx) ?_; intro w9 hmap9 hgrow9))
              have hblk : w9.heap[w.heap.size]? = wr.heap[w.heap.size]? := (hgrow9.block _ (by have := hB1.size; omega) (by simp)).trans (hB1.block _ (by omega))
              have hs9 := hgrow9.size
              have hs1 := hB1.size
              go_roundw
              case rel => exact ⟨k + 1, by go_num, by omega, hS.out, (World.cell?_of_block (a := ⟨w.heap.size, 0, none⟩) hblk).trans hc0, (World.cell?_of_block (a := ⟨w.heap.size, 1, none⟩) hblk).trans hc1, by omega, hmap9, (hB.trans (hB1.mono hB.size)).grown hgrow9 (by omega) (fun k e => by cases e; omega)⟩
              case measure => simp [intOf]; omega
      · obtain rfl : k = l.length := by omega
        have hE := Lib.hid (checkI_end (dry := dry) hlong hall.out)
        cases q : inB dry 0 1000 with
        | true =>
          go_wp2_with (go_at_call 43; refine (in_any _ _ _ _).mono ?_; rintro e w' ⟨rfl, rfl⟩)
          go_ret
          exact ⟨by rw [hE.out, q]; rfl, hB⟩
        | false =>
          go_wp2_with (go_at_call 43; refine (in_any _ _ _ _).mono ?_; rintro e w' ⟨rfl, rfl⟩)
          go_ret
          exact ⟨by rw [hE.out, q]; rfl, hB⟩
end Go.Proofs.Ytpgkhlpepckfgaa
end
