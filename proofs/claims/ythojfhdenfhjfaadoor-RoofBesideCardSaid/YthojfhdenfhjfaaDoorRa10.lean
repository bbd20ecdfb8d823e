/-
  A map that the call itself made, told by what its look-ups answer; no program is named here.
-/
import Derived.Below
import Derived.Carry
import Derived.Maps.Keyed
import Derived.Maps.OwnSet
import Derived.OwnWalk
set_option linter.all false
set_option linter.unusedVariables false
set_option linter.unusedSimpArgs false
namespace Go.Proofs.YthojfhdenfhjfaaDoor
open Go.Maps (Keyed)
open Go.RowKit Go.MapKept Go.WideElems Go.ChangeMaps

/-- Block b is a map of at most n entries (keys of type k); its look-ups answer as m says. -/
def MapIs (w : World) (P : Program) (k : TypeId) (b n : Nat) (m : Value → Option Value) : Prop :=
  ∃ es clock, w.heap[b]? = some (.map es clock) ∧ es.size ≤ n ∧
    (∀ e ∈ es.toList, (∃ l, keyOf P k e.key = some l) ∧ m e.key = some e.val) ∧
    (∀ key l v, keyOf P k key = some l → m key = some v → ∃ e ∈ es.toList, e.key = key) ∧
    es.toList.Pairwise (fun x y => x.key ≠ y.key)

section
variable {P : Program} {k : TypeId} {w : World} {b n : Nat} {m : Value → Option Value}

theorem MapIs.made (w : World) (P : Program) (k : TypeId) : MapIs (w.alloc (.map #[] 0)) P k w.heap.size 0 (fun _ => none) :=
  ⟨#[], 0, (MapKept.heap_alloc w _).1, Nat.le_refl _, by simp, by simp, by simp⟩

theorem MapIs.made' (w : World) (P : Program) (k : TypeId) {b : Nat} (hb : b = w.heap.size) : MapIs (w.alloc (.map #[] 0)) P k b 0 (fun _ => none) := by rw [hb]; exact MapIs.made w P k

theorem MapIs.mono (h : MapIs w P k b n m) {n' : Nat} (hn : n ≤ n') : MapIs w P k b n' m := by
  obtain ⟨es, c, h1, h2, h3⟩ := h
  exact ⟨es, c, h1, Nat.le_trans h2 hn, h3⟩

theorem MapIs.ext (h : MapIs w P k b n m) {m' : Value → Option Value} (hm : ∀ key l, keyOf P k key = some l → m' key = m key) : MapIs w P k b n m' := by
  obtain ⟨es, c, h1, h2, h3, h4, h5⟩ := h
  refine ⟨es, c, h1, h2, fun e he => ?_, fun key l v hk hv => h4 key l v hk (by rw [← hm key l hk]; exact hv), h5⟩
  obtain ⟨⟨l, hl⟩, hv⟩ := h3 e he
  exact ⟨⟨l, hl⟩, by rw [hm _ l hl]; exact hv⟩

theorem MapIs.same (h : MapIs w P k b n m) {w' : World} (he : w'.heap[b]? = w.heap[b]?) : MapIs w' P k b n m := by
  obtain ⟨es, c, h1, h2⟩ := h
  exact ⟨es, c, he.trans h1, h2⟩

theorem MapIs.lt (h : MapIs w P k b n m) : b < w.heap.size := by
  obtain ⟨es, c, hb, _⟩ := h
  exact (Array.getElem?_eq_some_iff.1 hb).1

theorem MapIs.kept {w' : World} {row : Option Nat} (h : MapIs w P k b n m) (hg : w.grownBy w' row) (hne : some b ≠ row) : MapIs w' P k b n m :=
  h.same (hg.block b h.lt hne)

theorem MapIs.below {w' : World} {B : Nat} (h : MapIs w P k b n m) (hb : Below B w w') (hB : b < B) : MapIs w' P k b n m :=
  h.same (hb.block b hB)

theorem MapIs.alloc (h : MapIs w P k b n m) (o : Obj) : MapIs (w.alloc o) P k b n m :=
  h.kept (World.grownBy_alloc w o none) (by simp)

theorem MapIs.drew (h : MapIs w P k b n m) : MapIs w.drew P k b n m := h

/-- A look-up: the world stays; the value, or the zero value. -/
theorem MapIs.lookup (h : MapIs w P k b n m) {t e : TypeId} (K : Keyed P k) (ht : P.underlying t = some (.map k e)) {z : Value} (hz : (zeroValue e).run P w = .ok z w)
    {key : Value} {kl : Lit} (hkey : keyOf P k key = some kl) (c : Bool) :
    (Instr.lookup t (.map (some b)) key c).run P w = .ok (if c then .tuple #[(m key).getD z, .bool (m key).isSome] else (m key).getD z) w := by
  obtain ⟨es, clock, hb, _, h3, h4, _⟩ := h
  have hall : ∀ e ∈ es.toList, ∃ l, keyOf P k e.key = some l := fun e he => (h3 e he).1
  rcases K.find w hkey es.toList hall with ⟨hrun, hno⟩ | ⟨j, e0, hrun, hj, hk0⟩
  · have hm : m key = none := by
      cases hv : m key with
      | none => rfl
      | some v => obtain ⟨e', he', hk'⟩ := h4 key kl v hkey hv; exact absurd hk' (hno e' he')
    simp [Instr.lookup, run_underlying ht, MapKept.run_getObj_map hb, K.check w _ hkey, hrun, hz, hm, Result.andThen]
  · have he0 : e0 ∈ es.toList := List.mem_of_getElem? hj
    have hm : m key = some e0.val := by rw [← hk0]; exact (h3 e0 he0).2
    simp [Instr.lookup, run_underlying ht, MapKept.run_getObj_map hb, K.check w _ hkey, hrun, hm, Result.andThen]

/-- A store. -/
theorem MapIs.update (h : MapIs w P k b n m) {t e : TypeId} (K : Keyed P k) (ht : P.underlying t = some (.map k e)) {key val : Value} {kl : Lit} (hkey : keyOf P k key = some kl)
    {m' : Value → Option Value} (hm1 : m' key = some val) (hm2 : ∀ x l, keyOf P k x = some l → x ≠ key → m' x = m x) :
    ∃ w', (Instr.mapUpdate t (.map (some b)) key val).run P w = .ok () w' ∧ MapIs w' P k b (n + 1) m' ∧ w.grownBy w' (some b) ∧ w'.heap.size = w.heap.size := by
  obtain ⟨es, clock, hb, hn, h3, h4, h5⟩ := h
  have hall : ∀ e ∈ es.toList, ∃ l, keyOf P k e.key = some l := fun e he => (h3 e he).1
  have hgr : ∀ o, w.grownBy (ChangeMaps.setBlock w b o) (some b) := fun o =>
    ⟨rfl, rfl, rfl, by simp [ChangeMaps.setBlock], fun i _ hi => ChangeMaps.heap_setBlock_other hb _ (fun e => hi (by rw [e]))⟩
  have hss : ∀ o, (ChangeMaps.setBlock w b o).heap.size = w.heap.size := fun o => by simp [ChangeMaps.setBlock]
  rcases K.find w hkey es.toList hall with ⟨hrun, hno⟩ | ⟨j, e0, hrun, h2, hk0⟩
  · refine ⟨_, by simp [Instr.mapUpdate, run_underlying ht, MapKept.run_getObj_map hb, K.check w false hkey, hrun, MapKept.run_setObj_map _ hb, Result.andThen]; rfl,
      ⟨es.push ⟨key, val, clock⟩, clock + 1, ChangeMaps.heap_setBlock_same hb _, by simp; omega, ?_, ?_, ?_⟩, hgr _, hss _⟩
    · intro x hx
      simp only [Array.toList_push, List.mem_append, List.mem_singleton] at hx
      rcases hx with hx | rfl
      · obtain ⟨l, hl⟩ := (h3 x hx).1
        exact ⟨⟨l, hl⟩, by rw [hm2 _ l hl (hno x hx)]; exact (h3 x hx).2⟩
      · exact ⟨⟨kl, hkey⟩, hm1⟩
    · intro x l v hx hv
      by_cases he : x = key
      · exact ⟨⟨key, val, clock⟩, by simp, he.symm⟩
      · rw [hm2 x l hx he] at hv
        obtain ⟨e', he', hk'⟩ := h4 x l v hx hv
        exact ⟨e', by simp [he'], hk'⟩
    · rw [Array.toList_push, List.pairwise_append]
      exact ⟨h5, by simp, fun x hx y hy => by simp at hy; subst hy; exact hno x hx⟩
  · have hj : es[j]? = some e0 := by simpa using h2
    have hlist : (es.modify j (fun e' => { e' with key := key, val := val })).toList = es.toList.set j { e0 with key := key, val := val } := by rw [Array.toList_modify, modify_eq_set _ _ _ _ h2]
    have hjl : j < es.toList.length := (List.getElem?_eq_some_iff.1 h2).1
    have who : ∀ x ∈ es.toList.set j { e0 with key := key, val := val }, x = { e0 with key := key, val := val } ∨ (x ∈ es.toList ∧ x.key ≠ key) := by
      intro x hx
      obtain ⟨i, hi, ex⟩ := List.getElem_of_mem hx
      rw [List.getElem_set] at ex
      split at ex
      · exact Or.inl ex.symm
      · rename_i hne
        have hi' : i < es.toList.length := by simpa using hi
        have he0 : es.toList[j] = e0 := by rw [List.getElem?_eq_getElem hjl] at h2; exact Option.some.inj h2
        refine Or.inr ⟨ex ▸ List.getElem_mem hi', ?_⟩
        rw [← hk0, ← ex]
        intro e
        have hee : es.toList[i].key = es.toList[j].key := e.trans (congrArg MapEntry.key he0.symm)
        rcases Nat.lt_or_gt_of_ne hne with hh | hh
        · exact List.pairwise_iff_getElem.1 h5 j i hjl hi' hh hee.symm
        · exact List.pairwise_iff_getElem.1 h5 i j hi' hjl hh hee
    refine ⟨_, by simp [Instr.mapUpdate, run_underlying ht, MapKept.run_getObj_map hb, K.check w false hkey, hrun, hj, hk0, K.stays w hkey, MapKept.run_setObj_map _ hb, Result.andThen]; rfl,
      ⟨es.modify j (fun e' => { e' with key := key, val := val }), clock, ChangeMaps.heap_setBlock_same hb _, by simp; omega, ?_, ?_, ?_⟩, hgr _, hss _⟩
    · intro x hx
      rw [hlist] at hx
      rcases who x hx with rfl | ⟨hx', hne⟩
      · exact ⟨⟨kl, hkey⟩, hm1⟩
      · obtain ⟨l, hl⟩ := (h3 x hx').1
        exact ⟨⟨l, hl⟩, by rw [hm2 _ l hl hne]; exact (h3 x hx').2⟩
    · intro x l v hx hv
      rw [hlist]
      by_cases he : x = key
      · exact ⟨{ e0 with key := key, val := val }, List.mem_iff_getElem.2 ⟨j, by simpa using hjl, by simp⟩, he.symm⟩
      · rw [hm2 x l hx he] at hv
        obtain ⟨e', he', hk'⟩ := h4 x l v hx hv
        obtain ⟨i, hi, ei⟩ := List.getElem_of_mem he'
        refine ⟨e', List.mem_iff_getElem.2 ⟨i, by simpa using hi, ?_⟩, hk'⟩
        rw [List.getElem_set, if_neg, ei]
        rintro rfl
        have he0 : es.toList[j] = e0 := by rw [List.getElem?_eq_getElem hjl] at h2; exact Option.some.inj h2
        rw [he0] at ei
        rw [← ei] at hk'
        exact he (hk'.symm.trans hk0)
    · rw [hlist]
      have : (es.toList.set j { e0 with key := key, val := val }).map (·.key) = es.toList.map (·.key) := by
        rw [List.map_set]
        apply List.ext_getElem (by simp)
        intro i h1 h2'
        rw [List.getElem_set]
        split
        · rename_i e; subst e
          have he0 : es.toList[j] = e0 := by rw [List.getElem?_eq_getElem hjl] at h2; exact Option.some.inj h2
          simp [he0, hk0]
        · rfl
      have hp := List.pairwise_map.2 h5
      rw [← this] at hp
      exact List.pairwise_map.1 hp
end

section
variable {P : Program} (w : World) {ops : Array Oper} {rest : List Oper} {o : Oper} {a : Act} {Q : Exit → Act → World → Prop}

/-- The look-up at the operation, for the walk. -/
theorem wp_look (hg : o.guard = none) (mo x : Operand) (t : TypeId) (hop : o.op = Op.lookup t mo x false)
    (k e : TypeId) (K : Keyed P k) (ht : P.underlying t = some (.map k e)) (z : Value) (hz : (zeroValue e).run P w = .ok z w) (b n : Nat) (m : Value → Option Value)
    (hm : a.eval mo = .map (some b)) (hown : MapIs w P k b n m) (key : Value) (kl : Lit) (hx : a.eval x = key) (hkey : keyOf P k key = some kl)
    (v : Value) (hv : (m key).getD z = v) (hK : wpList P ops Q rest (a.put o.dst v) w) :
    wpList P ops Q (o :: rest) a w := by
  refine wpList_plain hg fun K' hK' => ?_
  have hrun := hown.lookup K ht hz hkey false
  subst hv
  unfold Oper.wp
  simp [execOp, hop, hm, hx, hrun, Result.andThen]
  exact hK' _ _ hK

theorem wp_look_ok (hg : o.guard = none) (mo x : Operand) (t : TypeId) (hop : o.op = Op.lookup t mo x true)
    (k e : TypeId) (K : Keyed P k) (ht : P.underlying t = some (.map k e)) (z : Value) (hz : (zeroValue e).run P w = .ok z w) (b n : Nat) (m : Value → Option Value)
    (hm : a.eval mo = .map (some b)) (hown : MapIs w P k b n m) (key : Value) (kl : Lit) (hx : a.eval x = key) (hkey : keyOf P k key = some kl)
    (hK : wpList P ops Q rest (a.put o.dst (.tuple #[(m key).getD z, .bool (m key).isSome])) w) :
    wpList P ops Q (o :: rest) a w := by
  refine wpList_plain hg fun K' hK' => ?_
  have hrun := hown.lookup K ht hz hkey true
  unfold Oper.wp
  simp [execOp, hop, hm, hx, hrun, Result.andThen]
  exact hK' _ _ hK

/-- The store at the operation (m[k] = v), for the walk. -/
theorem wp_store (hg : o.guard = none) (mo x v : Operand) (t : TypeId) (hop : o.op = Op.mapUpdate t mo x v ∨ o.op = Op.insert t mo x v)
    (k e : TypeId) (K : Keyed P k) (ht : P.underlying t = some (.map k e)) (b n : Nat) (m : Value → Option Value)
    (hm : a.eval mo = .map (some b)) (hown : MapIs w P k b n m) (key val : Value) (kl : Lit) (hx : a.eval x = key) (hv : a.eval v = val) (hkey : keyOf P k key = some kl)
    (m' : Value → Option Value) (hm1 : m' key = some val) (hm2 : ∀ x l, keyOf P k x = some l → x ≠ key → m' x = m x)
    (hK : ∀ w', MapIs w' P k b (n + 1) m' → w.grownBy w' (some b) → wpList P ops Q rest (a.put o.dst undef) w') :
    wpList P ops Q (o :: rest) a w := by
  refine wpList_plain hg fun K' hK' => ?_
  obtain ⟨w', hrun, r1, r2, _⟩ := hown.update K ht hkey hm1 hm2
  unfold Oper.wp
  rcases hop with hop | hop <;> simp [execOp, hop, hm, hx, hv, hrun, Result.andThen] <;> exact hK' _ _ (hK w' r1 r2)

/-- One entry of a map's literal. -/
theorem wp_insert (hg : o.guard = none) (mo x v : Operand) (t : TypeId) (hop : o.op = Op.insert t mo x v)
    (k e : TypeId) (K : Keyed P k) (ht : P.underlying t = some (.map k e)) (b n : Nat) (m : Value → Option Value)
    (hm : a.eval mo = .map (some b)) (hown : MapIs w P k b n m) (key val : Value) (kl : Lit) (hx : a.eval x = key) (hv : a.eval v = val) (hkey : keyOf P k key = some kl)
    (m' : Value → Option Value) (hm1 : m' key = some val) (hm2 : ∀ x l, keyOf P k x = some l → x ≠ key → m' x = m x)
    (hK : ∀ w', MapIs w' P k b (n + 1) m' → w.grownBy w' (some b) → w'.heap.size = w.heap.size → wpList P ops Q rest (a.put o.dst undef) w') :
    wpList P ops Q (o :: rest) a w := by
  refine wpList_plain hg fun K' hK' => ?_
  obtain ⟨w', hrun, r1, r2, r3⟩ := hown.update K ht hkey hm1 hm2
  unfold Oper.wp
  simp [execOp, hop, hm, hx, hv, hrun, Result.andThen]
  exact hK' _ _ (hK w' r1 r2 r3)
end
end Go.Proofs.YthojfhdenfhjfaaDoor
