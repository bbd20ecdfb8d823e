/-
  slices.ContainsFunc at faces and at openings, slices.Contains at points, isName, box, and the functions that are handed to them: walked. PRINTED by genR12.py. slices.Contains at points: walked. checkFace: walked. checkOpen: walked. PRINTED by genR15.py.
-/
import Derived.Test.YthojfhdenfhjfaaDoorRa02
import Derived.Test.YthojfhdenfhjfaaDoorRa07
set_option linter.all false
set_option linter.unusedVariables false
set_option linter.unusedSimpArgs false
section
namespace Go.Proofs.YthojfhdenfhjfaaDoor
open Go.RowKit Go.Lib Go.Shelf

abbrev faceVal (f : Face) : Value := .agg #[.string f.name, .int .i64 f.side, .int .i64 f.foot, .int .i64 f.base, .int .i64 f.rise, .int .i64 f.run, .slice f.ca f.corners.length f.cc]
abbrev opnVal (o : Opn) : Value := .agg #[.string o.name, .int .i64 o.face, .int .i64 o.low.x, .int .i64 o.low.y, .int .i64 o.high.x, .int .i64 o.high.y]
theorem bytes_beq (a b : ByteArray) : (a.toList == b.toList) = decide (a = b) := by
  rw [Lib.toList_data, Lib.toList_data, Bool.eq_iff_iff]
  simp only [beq_iff_eq, decide_eq_true_eq]
  constructor
  · intro h
    cases a; cases b
    simp at h
    rw [h]
  · intro h; rw [h]
theorem flat7 {α : Type} {enc : α → List Value} {w : World} {A : Option Addr} {l : List α} (h : FlatRow enc 7 w A l) {i : Nat} (hi : i < l.length)
    {v0 v1 v2 v3 v4 v5 v6 : Value} (he : enc l[i] = [v0, v1, v2, v3, v4, v5, v6]) : ∃ ad, A = some ad ∧
    w.cell? (ad.add (i * 7)) = some v0 ∧ w.cell? ⟨(ad.add (i * 7)).block, (ad.add (i * 7)).off + 1, none⟩ = some v1 ∧ w.cell? ⟨(ad.add (i * 7)).block, (ad.add (i * 7)).off + 2, none⟩ = some v2 ∧
    w.cell? ⟨(ad.add (i * 7)).block, (ad.add (i * 7)).off + 3, none⟩ = some v3 ∧ w.cell? ⟨(ad.add (i * 7)).block, (ad.add (i * 7)).off + 4, none⟩ = some v4 ∧ w.cell? ⟨(ad.add (i * 7)).block, (ad.add (i * 7)).off + 5, none⟩ = some v5 ∧
    w.cell? ⟨(ad.add (i * 7)).block, (ad.add (i * 7)).off + 6, none⟩ = some v6 := by
  obtain ⟨ad, e, hc⟩ := h.2 i l[i] (by simp [hi])
  rw [he] at hc
  refine ⟨ad, e, hc 0 _ rfl, ?_, ?_, ?_, ?_, ?_, ?_⟩ <;> (rw [← addr_field _ _ _ (by omega)]; exact hc _ _ rfl)
theorem flat6 {α : Type} {enc : α → List Value} {w : World} {A : Option Addr} {l : List α} (h : FlatRow enc 6 w A l) {i : Nat} (hi : i < l.length)
    {v0 v1 v2 v3 v4 v5 : Value} (he : enc l[i] = [v0, v1, v2, v3, v4, v5]) : ∃ ad, A = some ad ∧
    w.cell? (ad.add (i * 6)) = some v0 ∧ w.cell? ⟨(ad.add (i * 6)).block, (ad.add (i * 6)).off + 1, none⟩ = some v1 ∧ w.cell? ⟨(ad.add (i * 6)).block, (ad.add (i * 6)).off + 2, none⟩ = some v2 ∧
    w.cell? ⟨(ad.add (i * 6)).block, (ad.add (i * 6)).off + 3, none⟩ = some v3 ∧ w.cell? ⟨(ad.add (i * 6)).block, (ad.add (i * 6)).off + 4, none⟩ = some v4 ∧ w.cell? ⟨(ad.add (i * 6)).block, (ad.add (i * 6)).off + 5, none⟩ = some v5 := by
  obtain ⟨ad, e, hc⟩ := h.2 i l[i] (by simp [hi])
  rw [he] at hc
  refine ⟨ad, e, hc 0 _ rfl, ?_, ?_, ?_, ?_, ?_⟩ <;> (rw [← addr_field _ _ _ (by omega)]; exact hc _ _ rfl)
theorem cells6 {w : World} {b : Nat} {v0 v1 v2 v3 v4 v5 : Value} {t : TypeId} (h : w.heap[b]? = some (.cells #[v0, v1, v2, v3, v4, v5] t (0, 0))) : w.cell? ⟨b, 0, none⟩ = some v0 ∧ w.cell? ⟨b, 1, none⟩ = some v1 ∧ w.cell? ⟨b, 2, none⟩ = some v2 ∧ w.cell? ⟨b, 3, none⟩ = some v3 ∧ w.cell? ⟨b, 4, none⟩ = some v4 ∧ w.cell? ⟨b, 5, none⟩ = some v5 := by
  refine ⟨?_, ?_, ?_, ?_, ?_, ?_⟩ <;> simp [World.cell?, h]
theorem cells7 {w : World} {b : Nat} {v0 v1 v2 v3 v4 v5 v6 : Value} {t : TypeId} (h : w.heap[b]? = some (.cells #[v0, v1, v2, v3, v4, v5, v6] t (0, 0))) : w.cell? ⟨b, 0, none⟩ = some v0 ∧ w.cell? ⟨b, 1, none⟩ = some v1 ∧ w.cell? ⟨b, 2, none⟩ = some v2 ∧ w.cell? ⟨b, 3, none⟩ = some v3 ∧ w.cell? ⟨b, 4, none⟩ = some v4 ∧ w.cell? ⟨b, 5, none⟩ = some v5 ∧ w.cell? ⟨b, 6, none⟩ = some v6 := by
  refine ⟨?_, ?_, ?_, ?_, ?_, ?_, ?_⟩ <;> simp [World.cell?, h]
theorem RdFaces.at7 {w : World} {A : Option Addr} {l : List Face} (h : RdFaces w A l) {i : Nat} (hi : i < l.length) : ∃ ad, A = some ad ∧
    w.cell? (ad.add (i * 7)) = some (.string (l.getD i default).name) ∧ w.cell? ⟨(ad.add (i * 7)).block, (ad.add (i * 7)).off + 1, none⟩ = some (.int .i64 (l.getD i default).side) ∧ w.cell? ⟨(ad.add (i * 7)).block, (ad.add (i * 7)).off + 2, none⟩ = some (.int .i64 (l.getD i default).foot) ∧
    w.cell? ⟨(ad.add (i * 7)).block, (ad.add (i * 7)).off + 3, none⟩ = some (.int .i64 (l.getD i default).base) ∧ w.cell? ⟨(ad.add (i * 7)).block, (ad.add (i * 7)).off + 4, none⟩ = some (.int .i64 (l.getD i default).rise) ∧ w.cell? ⟨(ad.add (i * 7)).block, (ad.add (i * 7)).off + 5, none⟩ = some (.int .i64 (l.getD i default).run) ∧
    w.cell? ⟨(ad.add (i * 7)).block, (ad.add (i * 7)).off + 6, none⟩ = some (.slice (l.getD i default).ca (l.getD i default).corners.length (l.getD i default).cc) := by
  have e : l.getD i default = l[i] := by simp [List.getD_eq_getElem?_getD, hi]
  rw [e]
  exact flat7 h.1 hi rfl
theorem RdOpns.at6 {w : World} {A : Option Addr} {l : List Opn} (h : RdOpns w A l) {i : Nat} (hi : i < l.length) : ∃ ad, A = some ad ∧
    w.cell? (ad.add (i * 6)) = some (.string (l.getD i default).name) ∧ w.cell? ⟨(ad.add (i * 6)).block, (ad.add (i * 6)).off + 1, none⟩ = some (.int .i64 (l.getD i default).face) ∧ w.cell? ⟨(ad.add (i * 6)).block, (ad.add (i * 6)).off + 2, none⟩ = some (.int .i64 (l.getD i default).low.x) ∧
    w.cell? ⟨(ad.add (i * 6)).block, (ad.add (i * 6)).off + 3, none⟩ = some (.int .i64 (l.getD i default).low.y) ∧ w.cell? ⟨(ad.add (i * 6)).block, (ad.add (i * 6)).off + 4, none⟩ = some (.int .i64 (l.getD i default).high.x) ∧ w.cell? ⟨(ad.add (i * 6)).block, (ad.add (i * 6)).off + 5, none⟩ = some (.int .i64 (l.getD i default).high.y) := by
  have e : l.getD i default = l[i] := by simp [List.getD_eq_getElem?_getD, hi]
  rw [e]
  exact flat6 h.1 hi rfl
set_option maxHeartbeats 1000000 in
set_option maxRecDepth 100000 in
theorem idxFace_any (A : Option Addr) (c : Nat) (l : List Face) (w : World) (hA : RdFaces w A l) (hl : l.length ≤ 1000000) (gf : Nat) (caps : Array Value) (eg : ∀ args W, (callFunc gf args).run Tryd.prog W = .ok (.enter gf args) W) (Pb : Face → Bool)
    (hP : ∀ q ∈ l, ∀ W, Below w.heap.size w W → Calls Tryd.prog gf (#[faceVal q] ++ caps) W fun e w' => e = .returned (.bool (Pb q)) ∧ Below W.heap.size W w') :
    Calls Tryd.prog 116 #[.slice A l.length c, .func (.func gf) #[] caps] w fun e w' => e = .returned (.int .i64 (idxB Pb l)) ∧ Below w.heap.size w w' := by
  go_enter Tryd.func116, Tryd.ntmps116
  go_wp2
  go_loopw [8] (fun i wr => ∃ k : Nat, i = .int .i64 k ∧ k ≤ l.length ∧ Hid (∀ j (hj : j < k) (hj2 : j < l.length), Pb l[j] = false) ∧ Hid (Below w.heap.size w wr)) (fun i _ => l.length - (intOf i).toNat)
  case atStart => exact ⟨0, rfl, Nat.zero_le _, fun j hj => absurd hj (Nat.not_lt_zero _), Below.refl _ _⟩
  case round =>
    obtain ⟨k, rfl, hk, hno, hb⟩ := hrel
    by_cases hlt : k < l.length
    · obtain ⟨ad, hA', p0, p1, p2, p3, p4, p5, p6⟩ := (hA.below hb.out).at7 hlt
      have hq := hP _ (List.getElem_mem hlt) wr hb.out
      have e : l.getD k default = l[k] := by simp [List.getD_eq_getElem?_getD, hlt]
      rw [e] at p0 p1 p2 p3 p4 p5 p6
      obtain ⟨q, hqe⟩ : ∃ q, q = l[k] := ⟨_, rfl⟩
      rw [← hqe] at p0 p1 p2 p3 p4 p5 p6 hq
      subst hA'
      replace hqe := Lib.hid hqe
      replace e := Lib.hid e
      cases hpb : Pb q with
      | true =>
        rw [hpb] at hq
        replace hq := Lib.hid hq
        go_wp2
        (with_reducible refine hq.out.mono ?_)
        rintro e' w1 ⟨rfl, hb1⟩
        go_wp2
        go_ret
        exact ⟨by rw [idxB_at hlt (fun j hj => hno.out j hj (by omega)) (by rw [← hqe.out]; exact hpb)]; rfl, hb.out.trans (hb1.mono hb.out.size)⟩
      | false =>
        rw [hpb] at hq
        replace hq := Lib.hid hq
        go_wp2
        (with_reducible refine hq.out.mono ?_)
        rintro e' w1 ⟨rfl, hb1⟩
        go_wp2
        exact ⟨⟨k + 1, by go_num, by omega, fun j hj hj2 => (by
          rcases Nat.lt_or_ge j k with h1 | h1
          · exact hno.out j h1 hj2
          · obtain rfl : j = k := by omega
            rw [← hqe.out]; exact hpb), hb.out.trans (hb1.mono hb.out.size)⟩, by simp only [intOf]; omega⟩
    · obtain rfl : k = l.length := by omega
      go_wp2
      go_ret
      exact ⟨by rw [idxB_none fun j hj => hno.out j hj hj]; rfl, hb.out⟩
theorem hasFace_any (A : Option Addr) (c : Nat) (l : List Face) (w : World) (hA : RdFaces w A l) (hl : l.length ≤ 1000000) (gf : Nat) (caps : Array Value) (eg : ∀ args W, (callFunc gf args).run Tryd.prog W = .ok (.enter gf args) W) (Pb : Face → Bool)
    (hP : ∀ q ∈ l, ∀ W, Below w.heap.size w W → Calls Tryd.prog gf (#[faceVal q] ++ caps) W fun e w' => e = .returned (.bool (Pb q)) ∧ Below W.heap.size W w') :
    Calls Tryd.prog 78 #[.slice A l.length c, .func (.func gf) #[] caps] w fun e w' => e = .returned (.bool (l.any Pb)) ∧ Below w.heap.size w w' := by
  have hg := Lib.hid (idxB_ge Pb l)
  obtain ⟨x, hx⟩ : ∃ x, x = idxB Pb l := ⟨_, rfl⟩
  have h1 := hx ▸ idxFace_any A c l w hA hl gf caps eg Pb hP
  rw [← hx] at hg
  replace h1 := Lib.hid h1
  replace hx := Lib.hid hx
  go_enter Tryd.func78, Tryd.ntmps78
  go_wp2_with (go_at_call 116; (with_reducible refine h1.out.mono ?_); rintro e w1 ⟨rfl, hb1⟩)
  go_ret
  exact ⟨by rw [← hg.out]; rfl, hb1⟩
set_option maxHeartbeats 1000000 in
set_option maxRecDepth 100000 in
theorem idxOpen_any (A : Option Addr) (c : Nat) (l : List Opn) (w : World) (hA : RdOpns w A l) (hl : l.length ≤ 1000000) (gf : Nat) (caps : Array Value) (eg : ∀ args W, (callFunc gf args).run Tryd.prog W = .ok (.enter gf args) W) (Pb : Opn → Bool)
    (hP : ∀ q ∈ l, ∀ W, Below w.heap.size w W → Calls Tryd.prog gf (#[opnVal q] ++ caps) W fun e w' => e = .returned (.bool (Pb q)) ∧ Below W.heap.size W w') :
    Calls Tryd.prog 62 #[.slice A l.length c, .func (.func gf) #[] caps] w fun e w' => e = .returned (.int .i64 (idxB Pb l)) ∧ Below w.heap.size w w' := by
  go_enter Tryd.func62, Tryd.ntmps62
  go_wp2
  go_loopw [8] (fun i wr => ∃ k : Nat, i = .int .i64 k ∧ k ≤ l.length ∧ Hid (∀ j (hj : j < k) (hj2 : j < l.length), Pb l[j] = false) ∧ Hid (Below w.heap.size w wr)) (fun i _ => l.length - (intOf i).toNat)
  case atStart => exact ⟨0, rfl, Nat.zero_le _, fun j hj => absurd hj (Nat.not_lt_zero _), Below.refl _ _⟩
  case round =>
    obtain ⟨k, rfl, hk, hno, hb⟩ := hrel
    by_cases hlt : k < l.length
    · obtain ⟨ad, hA', p0, p1, p2, p3, p4, p5⟩ := (hA.below hb.out).at6 hlt
      have hq := hP _ (List.getElem_mem hlt) wr hb.out
      have e : l.getD k default = l[k] := by simp [List.getD_eq_getElem?_getD, hlt]
      rw [e] at p0 p1 p2 p3 p4 p5
      obtain ⟨q, hqe⟩ : ∃ q, q = l[k] := ⟨_, rfl⟩
      rw [← hqe] at p0 p1 p2 p3 p4 p5 hq
      subst hA'
      replace hqe := Lib.hid hqe
      replace e := Lib.hid e
      cases hpb : Pb q with
      | true =>
        rw [hpb] at hq
        replace hq := Lib.hid hq
        go_wp2
        (with_reducible refine hq.out.mono ?_)
        rintro e' w1 ⟨rfl, hb1⟩
        go_wp2
        go_ret
        exact ⟨by rw [idxB_at hlt (fun j hj => hno.out j hj (by omega)) (by rw [← hqe.out]; exact hpb)]; rfl, hb.out.trans (hb1.mono hb.out.size)⟩
      | false =>
        rw [hpb] at hq
        replace hq := Lib.hid hq
        go_wp2
        (with_reducible refine hq.out.mono ?_)
        rintro e' w1 ⟨rfl, hb1⟩
        go_wp2
        exact ⟨⟨k + 1, by go_num, by omega, fun j hj hj2 => (by
          rcases Nat.lt_or_ge j k with h1 | h1
          · exact hno.out j h1 hj2
          · obtain rfl : j = k := by omega
            rw [← hqe.out]; exact hpb), hb.out.trans (hb1.mono hb.out.size)⟩, by simp only [intOf]; omega⟩
    · obtain rfl : k = l.length := by omega
      go_wp2
      go_ret
      exact ⟨by rw [idxB_none fun j hj => hno.out j hj hj]; rfl, hb.out⟩
theorem hasOpen_any (A : Option Addr) (c : Nat) (l : List Opn) (w : World) (hA : RdOpns w A l) (hl : l.length ≤ 1000000) (gf : Nat) (caps : Array Value) (eg : ∀ args W, (callFunc gf args).run Tryd.prog W = .ok (.enter gf args) W) (Pb : Opn → Bool)
    (hP : ∀ q ∈ l, ∀ W, Below w.heap.size w W → Calls Tryd.prog gf (#[opnVal q] ++ caps) W fun e w' => e = .returned (.bool (Pb q)) ∧ Below W.heap.size W w') :
    Calls Tryd.prog 84 #[.slice A l.length c, .func (.func gf) #[] caps] w fun e w' => e = .returned (.bool (l.any Pb)) ∧ Below w.heap.size w w' := by
  have hg := Lib.hid (idxB_ge Pb l)
  obtain ⟨x, hx⟩ : ∃ x, x = idxB Pb l := ⟨_, rfl⟩
  have h1 := hx ▸ idxOpen_any A c l w hA hl gf caps eg Pb hP
  rw [← hx] at hg
  replace h1 := Lib.hid h1
  replace hx := Lib.hid hx
  go_enter Tryd.func84, Tryd.ntmps84
  go_wp2_with (go_at_call 62; (with_reducible refine h1.out.mono ?_); rintro e w1 ⟨rfl, hb1⟩)
  go_ret
  exact ⟨by rw [← hg.out]; rfl, hb1⟩
theorem beq45 (r : Nat) : ((r : Int) == 45) = decide (r = 45) := by rw [Bool.eq_iff_iff]; simp; omega
/-- What strings.ContainsFunc is handed by isName. -/
theorem bad_pred (w : World) : PredAt Tryd.prog 115 #[] encR badRune w := fun W r _ => by
  unfold FnGives
  have hN : Hid (badRune r = !((decide (97 ≤ r) && decide (r ≤ 122)) || (decide (48 ≤ r) && decide (r ≤ 57)) || decide (r = 45))) := rfl
  have z1 : (97 : Int) ≤ (r : Int) ↔ 97 ≤ r := by omega
  have z2 : (r : Int) ≤ 122 ↔ r ≤ 122 := by omega
  have z3 : (48 : Int) ≤ (r : Int) ↔ 48 ≤ r := by omega
  have z4 : (r : Int) ≤ 57 ↔ r ≤ 57 := by omega
  by_cases h1 : 97 ≤ r <;> by_cases h2 : r ≤ 122 <;> by_cases h3 : 48 ≤ r <;> by_cases h4 : r ≤ 57
  all_goals first | (exfalso; omega) | skip
  all_goals
    go_enter Tryd.func115, Tryd.ntmps115
    go_wp2
    all_goals first | (exfalso; omega) | (go_ret; exact ⟨by rw [hN.out]; simp [h1, h2, h3, h4]; try exact beq45 r, 0, rfl⟩)


theorem empty_iff (s : ByteArray) : s.toList.isEmpty = decide (s.size = 0) := by
  rw [Lib.toList_data]
  have hl : s.data.toList.length = s.size := by simp
  cases h : s.data.toList with
  | nil => rw [h] at hl; have h2 : s.size = 0 := hl.symm; rw [decide_eq_true h2]; rfl
  | cons x l => rw [h] at hl; simp only [List.length_cons] at hl; have h2 : ¬ s.size = 0 := by omega
                rw [decide_eq_false h2]; rfl
theorem get_get (s : ByteArray) (i : Nat) (h : i < s.size) : s.get! i = s[i] := by
  show s.data[i]! = s.data[i]
  exact getElem!_pos s.data i h

/-- straw.isName. -/
theorem isName_any (s : ByteArray) (w : World) (hs : s.size ≤ 9223372036854775807) :
    Calls Tryd.prog 77 #[.string s] w fun e w' => e = .returned (.bool (nameB s)) ∧ Below w.heap.size w w' := by
  have hC := fun W => Any.strings_ContainsFunc Tryd.laysGw17 115 #[] (enters_of Tryd.func115 (by kernel_rfl) rfl) badRune s W (bad_pred W)
  change ∀ W, Calls Tryd.prog 114 _ _ _ at hC
  have HC := Lib.hid hC
  clear hC
  by_cases h0 : s.size = 0
  · have hN : Hid (nameB s = false) := by simp [nameB, h0, Hid]
    have hn : s.toList = [] := by have := empty_iff s; rw [h0] at this; simpa using this
    go_enter Tryd.func77, Tryd.ntmps77
    go_wp2
    go_ret
    exact ⟨by rw [hN.out]; rfl, Below.refl _ _⟩
  · have hp : 0 < s.size := by omega
    have he : s.toList.isEmpty = false := by rw [empty_iff]; simp [h0]
    have he2 : ¬ s.toList = [] := by intro e; rw [e] at he; cases he
    by_cases h1 : 16 < s.size
    · have hN : Hid (nameB s = false) := by unfold Hid nameB; simp; omega
      have h1' : 16 < (s.size : Int) := by omega
      go_enter Tryd.func77, Tryd.ntmps77
      go_wp2
      go_ret
      exact ⟨by rw [hN.out]; rfl, Below.refl _ _⟩
    · have h1' : ¬ 16 < (s.size : Int) := by omega
      have hN : Hid (nameB s = (decide (97 ≤ s[0].toNat) && decide (s[0].toNat ≤ 122) && allNameBytes s)) := by
        unfold Hid nameB
        rw [get_get s 0 hp]
        have : 1 ≤ s.size ∧ s.size ≤ 16 := by omega
        simp [this]
      have hI := Lib.hid (idx_bad s)
      by_cases h2 : 97 ≤ s[0].toNat
      · by_cases h3 : s[0].toNat ≤ 122
        · have h2' : ¬ ((s[0].toNat : Nat) : Int) < 97 := by omega
          have h3' : ¬ 122 < ((s[0].toNat : Nat) : Int) := by omega
          go_enter Tryd.func77, Tryd.ntmps77
          go_wp2_with (go_at_call 114; refine (HC.out _).mono ?_; rintro e w' ⟨rfl, hb⟩)
          all_goals first | (exfalso; omega) | skip
          go_ret
          exact ⟨by rw [hN.out, hI.out]; simp [h2, h3], hb⟩
        · have h2' : ¬ ((s[0].toNat : Nat) : Int) < 97 := by omega
          have h3' : 122 < ((s[0].toNat : Nat) : Int) := by omega
          go_enter Tryd.func77, Tryd.ntmps77
          go_wp2_with fail
          go_ret
          exact ⟨by rw [hN.out]; simp [h3], Below.refl _ _⟩
      · have h2' : ((s[0].toNat : Nat) : Int) < 97 := by omega
        go_enter Tryd.func77, Tryd.ntmps77
        go_wp2_with fail
        go_ret
        exact ⟨by rw [hN.out]; simp [h2], Below.refl _ _⟩


theorem box_row (o : Opn) (W : World) : RdPnts (W.alloc (.cells #[.int .i64 o.low.x, .int .i64 o.low.y, .int .i64 o.high.x, .int .i64 o.low.y, .int .i64 o.high.x, .int .i64 o.high.y, .int .i64 o.low.x, .int .i64 o.high.y] 39)) (some ⟨W.heap.size, 0, none⟩) (boxL o) :=
  have h : (W.alloc (.cells #[.int .i64 o.low.x, .int .i64 o.low.y, .int .i64 o.high.x, .int .i64 o.low.y, .int .i64 o.high.x, .int .i64 o.high.y, .int .i64 o.low.x, .int .i64 o.high.y] 39)).heap[W.heap.size]? = some (.cells ((boxL o).flatMap encPnt).toArray 39 (0, 0)) := heap_new _ _ _ rfl
  flatRow_block (enc := encPnt) (sz := 2) (fun _ => rfl) h (by simp [boxL])
/-- roof.box. -/
theorem box_any (o : Opn) (w : World) : Calls Tryd.prog 86 #[opnVal o] w fun e w' => e = .returned (.slice (some ⟨w.heap.size + 1, 0, none⟩) 4 4) ∧ RdPnts w' (some ⟨w.heap.size + 1, 0, none⟩) (boxL o) ∧ Below w.heap.size w w' := by
  have hb2 : Below w.heap.size w ((w.alloc (.cells #[.string o.name, .int .i64 o.face, .int .i64 o.low.x, .int .i64 o.low.y, .int .i64 o.high.x, .int .i64 o.high.y] 58)).alloc (.cells #[.int .i64 o.low.x, .int .i64 o.low.y, .int .i64 o.high.x, .int .i64 o.low.y, .int .i64 o.high.x, .int .i64 o.high.y, .int .i64 o.low.x, .int .i64 o.high.y] 39)) := ((Below.refl _ w).alloc (Nat.le_refl _) _).alloc (by simp) _
  have hr : RdPnts ((w.alloc (.cells #[.string o.name, .int .i64 o.face, .int .i64 o.low.x, .int .i64 o.low.y, .int .i64 o.high.x, .int .i64 o.high.y] 58)).alloc (.cells #[.int .i64 o.low.x, .int .i64 o.low.y, .int .i64 o.high.x, .int .i64 o.low.y, .int .i64 o.high.x, .int .i64 o.high.y, .int .i64 o.low.x, .int .i64 o.high.y] 39)) (some ⟨w.heap.size + 1, 0, none⟩) (boxL o) := by have h := box_row o (w.alloc (.cells #[.string o.name, .int .i64 o.face, .int .i64 o.low.x, .int .i64 o.low.y, .int .i64 o.high.x, .int .i64 o.high.y] 58)); rwa [World.size_alloc] at h
  replace hb2 := Lib.hid hb2
  replace hr := Lib.hid hr
  go_enter Tryd.func86, Tryd.ntmps86
  go_wp2
  go_ret
  exact ⟨rfl, hr.out, hb2.out⟩

/-- checkFace's functions. -/
theorem face1_any (x f : Face) (Bf : Nat) (w : World) (hf : w.cell? ⟨Bf, 0, none⟩ = some (.string f.name)) : Calls Tryd.prog 79 #[faceVal x, .pointer (some ⟨Bf, 0, none⟩)] w fun e w' => e = .returned (.bool (decide (x.name = f.name))) ∧ Below w.heap.size w w' := by
  have hb : Hid (Below w.heap.size w (w.alloc (.cells #[.string x.name, .int .i64 x.side, .int .i64 x.foot, .int .i64 x.base, .int .i64 x.rise, .int .i64 x.run, .slice x.ca x.corners.length x.cc] 45))) := (Below.refl _ w).alloc (Nat.le_refl _) _
  have lf := World.block_lt_of_cell? w _ hf
  have hf1 : (w.alloc (.cells #[.string x.name, .int .i64 x.side, .int .i64 x.foot, .int .i64 x.base, .int .i64 x.rise, .int .i64 x.run, .slice x.ca x.corners.length x.cc] 45)).cell? ⟨Bf, 0, none⟩ = some (.string f.name) := (hb.out.cell lf).trans hf
  go_enter Tryd.func79, Tryd.ntmps79
  go_wp2
  go_ret
  exact ⟨by rw [← bytes_beq]; rfl, hb.out⟩
theorem face2_any (p : Pnt) (w : World) : Calls Tryd.prog 81 #[pntVal p] w fun e w' => e = .returned (.bool (!inPlan p)) ∧ Below w.heap.size w w' := by
  have hb : Hid (Below w.heap.size w (w.alloc (.cells #[.int .i64 p.x, .int .i64 p.y] 39))) := (Below.refl _ w).alloc (Nat.le_refl _) _
  go_enter Tryd.func81, Tryd.ntmps81
  go_wp2_with (go_at_call 52; (with_reducible refine (planned_any p _).mono ?_); rintro e w1 ⟨rfl, hb1⟩)
  go_ret
  exact ⟨by first | rfl | trivial, hb.out.trans (hb1.mono hb.out.size)⟩
/-- checkOpen's functions. -/
theorem open1_any (x f : Opn) (Bf : Nat) (w : World) (hf : w.cell? ⟨Bf, 0, none⟩ = some (.string f.name)) : Calls Tryd.prog 85 #[opnVal x, .pointer (some ⟨Bf, 0, none⟩)] w fun e w' => e = .returned (.bool (decide (x.name = f.name))) ∧ Below w.heap.size w w' := by
  have hb : Hid (Below w.heap.size w (w.alloc (.cells #[.string x.name, .int .i64 x.face, .int .i64 x.low.x, .int .i64 x.low.y, .int .i64 x.high.x, .int .i64 x.high.y] 58))) := (Below.refl _ w).alloc (Nat.le_refl _) _
  have lf := World.block_lt_of_cell? w _ hf
  have hf1 : (w.alloc (.cells #[.string x.name, .int .i64 x.face, .int .i64 x.low.x, .int .i64 x.low.y, .int .i64 x.high.x, .int .i64 x.high.y] 58)).cell? ⟨Bf, 0, none⟩ = some (.string f.name) := (hb.out.cell lf).trans hf
  go_enter Tryd.func85, Tryd.ntmps85
  go_wp2
  go_ret
  exact ⟨by rw [← bytes_beq]; rfl, hb.out⟩
theorem open2_any (x o : Opn) (Bf : Nat) (w : World) (hf : w.heap[Bf]? = some (.cells #[.string o.name, .int .i64 o.face, .int .i64 o.low.x, .int .i64 o.low.y, .int .i64 o.high.x, .int .i64 o.high.y] 58 (0, 0))) :
    Calls Tryd.prog 88 #[opnVal x, .pointer (some ⟨Bf, 0, none⟩)] w fun e w' => e = .returned (.bool (meetB x o)) ∧ Below w.heap.size w w' := by
  have hb : Hid (Below w.heap.size w (w.alloc (.cells #[.string x.name, .int .i64 x.face, .int .i64 x.low.x, .int .i64 x.low.y, .int .i64 x.high.x, .int .i64 x.high.y] 58))) := (Below.refl _ w).alloc (Nat.le_refl _) _
  have hf1 := heap_old w (.cells #[.string x.name, .int .i64 x.face, .int .i64 x.low.x, .int .i64 x.low.y, .int .i64 x.high.x, .int .i64 x.high.y] 58) _ _ hf
  obtain ⟨z0, z1, z2, z3, z4, z5⟩ := cells6 hf1
  clear hf hf1
  have hm : Hid (meetB x o = (decide (x.low.x ≤ o.high.x) && decide (o.low.x ≤ x.high.x) && decide (x.low.y ≤ o.high.y) && decide (o.low.y ≤ x.high.y))) := rfl
  obtain ⟨a, ha⟩ : ∃ a, a = decide (x.low.x ≤ o.high.x) := ⟨_, rfl⟩
  by_cases h1 : x.low.x ≤ o.high.x
  · by_cases h2 : o.low.x ≤ x.high.x
    · by_cases h3 : x.low.y ≤ o.high.y
      all_goals
        go_enter Tryd.func88, Tryd.ntmps88
        go_wp2
        go_ret
        exact ⟨by rw [hm.out]; simp; omega, hb.out⟩
    · go_enter Tryd.func88, Tryd.ntmps88
      go_wp2
      go_ret
      exact ⟨by rw [hm.out]; simp; omega, hb.out⟩
  · go_enter Tryd.func88, Tryd.ntmps88
    go_wp2
    go_ret
    exact ⟨by rw [hm.out]; simp; omega, hb.out⟩
end Go.Proofs.YthojfhdenfhjfaaDoor
end
section
namespace Go.Proofs.YthojfhdenfhjfaaDoor
open Go.RowKit Go.Lib Go.Shelf

set_option maxHeartbeats 1000000 in
set_option maxRecDepth 100000 in
theorem index_any (A : Option Addr) (c : Nat) (l : List Pnt) (p : Pnt) (w : World) (hA : RdPnts w A l) (hl : l.length ≤ 1000000) :
    Calls Tryd.prog 118 #[.slice A l.length c, pntVal p] w fun e w' => e = .returned (.int .i64 (idxB (fun q => decide (q = p)) l)) ∧ Below w.heap.size w w' := by
  obtain ⟨W0, hW0⟩ : ∃ W0, W0 = w.alloc (.cells #[.int .i64 p.x, .int .i64 p.y] 39) := ⟨_, rfl⟩
  have hB0 : Below w.heap.size w W0 := by rw [hW0]; exact (Below.refl _ w).alloc (Nat.le_refl _) _
  have hb : W0.heap[w.heap.size]? = some (.cells #[.int .i64 p.x, .int .i64 p.y] 39 (0, 0)) := by rw [hW0]; exact heap_new _ _ _ rfl
  replace hb := Lib.hid hb
  replace hB0 := Lib.hid hB0
  go_enter Tryd.func118, Tryd.ntmps118
  go_wp2
  rw [← hW0]
  replace hW0 := Lib.hid hW0
  go_loopw [8] (fun i wr => ∃ k : Nat, i = .int .i64 k ∧ k ≤ l.length ∧ Hid (∀ j (hj : j < k) (hj2 : j < l.length), decide (l[j] = p) = false) ∧ Hid (Below w.heap.size w wr) ∧ Hid (wr.heap[w.heap.size]? = some (.cells #[.int .i64 p.x, .int .i64 p.y] 39 (0, 0)))) (fun i _ => l.length - (intOf i).toNat)
  case atStart => exact ⟨0, rfl, Nat.zero_le _, fun j hj => absurd hj (Nat.not_lt_zero _), hB0.out, hb.out⟩
  case round =>
    obtain ⟨k, rfl, hk, hno, hbw, hbk⟩ := hrel
    by_cases hlt : k < l.length
    · obtain ⟨ad, hA', p0, p1⟩ := (hA.below hbw.out).at2 hlt
      have e : l.getD k default = l[k] := by simp [List.getD_eq_getElem?_getD, hlt]
      rw [e] at p0 p1
      obtain ⟨q, hqe⟩ : ∃ q, q = l[k] := ⟨_, rfl⟩
      rw [← hqe] at p0 p1
      obtain ⟨z0, z1⟩ := cells2 hbk.out
      subst hA'
      replace hqe := Lib.hid hqe
      replace e := Lib.hid e
      have hcl : Hid (∀ W', Below wr.heap.size wr W' → (W'.cell? ⟨w.heap.size, 0, none⟩ = some (.int .i64 p.x) ∧ W'.cell? ⟨w.heap.size, 1, none⟩ = some (.int .i64 p.y)) ∧ W'.cell? (ad.add (k * 2)) = some (.int .i64 q.x) ∧ W'.cell? ⟨(ad.add (k * 2)).block, (ad.add (k * 2)).off + 1, none⟩ = some (.int .i64 q.y)) := fun W' h =>
        ⟨cells2 ((h.block _ (lt_block hbk.out)).trans hbk.out), (h.cell (World.block_lt_of_cell? _ _ p0)).trans p0, (h.cell (World.block_lt_of_cell? _ _ p1)).trans p1⟩
      by_cases hq : q = p
      · subst hq
        go_wp2
        refine wp_region_tree (fun W' => Below wr.heap.size wr W') (.read 0 (.pure 1 (.pure 2 (.pure 3 (.read 4 (.pure 5 .done)))))) [] (by kernel_rfl) (by kernel_rfl) ((Below.refl _ _).drew) ?_
        refine wpTree_take (v := ?_) rfl (by rfl) ?_ (fun _ _ _ h => h) ?_
        rotate_left
        focus (intro w' hSw; obtain ⟨⟨z0, z1⟩, p0, p1⟩ := hcl.out _ hSw; clear hSw; (try simp only [List.getElem_toArray, List.getElem_cons_zero, List.getElem_cons_succ]); go_simp; try with_reducible rfl)
        (try simp only [List.getElem_toArray, List.getElem_cons_zero, List.getElem_cons_succ, Act.put, List.setIfInBounds_toArray, List.set_cons_zero, List.set_cons_succ])
        refine wpTree_pure (v := ?_) rfl (by rfl) ?_ (fun _ _ _ h => h) ?_
        rotate_left
        focus (intro w'; (try simp only [List.getElem_toArray, List.getElem_cons_zero, List.getElem_cons_succ]); go_simp; try with_reducible rfl)
        (try simp only [List.getElem_toArray, List.getElem_cons_zero, List.getElem_cons_succ, Act.put, List.setIfInBounds_toArray, List.set_cons_zero, List.set_cons_succ])
        refine wpTree_pure (v := ?_) rfl (by rfl) ?_ (fun _ _ _ h => h) ?_
        rotate_left
        focus (intro w'; (try simp only [List.getElem_toArray, List.getElem_cons_zero, List.getElem_cons_succ]); go_simp; try with_reducible rfl)
        (try simp only [List.getElem_toArray, List.getElem_cons_zero, List.getElem_cons_succ, Act.put, List.setIfInBounds_toArray, List.set_cons_zero, List.set_cons_succ])
        refine wpTree_pure (v := ?_) rfl (by rfl) ?_ (fun _ _ _ h => h) ?_
        rotate_left
        focus (intro w'; (try simp only [List.getElem_toArray, List.getElem_cons_zero, List.getElem_cons_succ]); go_simp; try with_reducible rfl)
        (try simp only [List.getElem_toArray, List.getElem_cons_zero, List.getElem_cons_succ, Act.put, List.setIfInBounds_toArray, List.set_cons_zero, List.set_cons_succ])
        refine wpTree_take (v := ?_) rfl (by rfl) ?_ (fun _ _ _ h => h) ?_
        rotate_left
        focus (intro w' hSw; obtain ⟨⟨z0, z1⟩, p0, p1⟩ := hcl.out _ hSw; clear hSw; (try simp only [List.getElem_toArray, List.getElem_cons_zero, List.getElem_cons_succ]); go_simp; try with_reducible rfl)
        (try simp only [List.getElem_toArray, List.getElem_cons_zero, List.getElem_cons_succ, Act.put, List.setIfInBounds_toArray, List.set_cons_zero, List.set_cons_succ])
        refine wpTree_pure (v := ?_) rfl (by rfl) ?_ (fun _ _ _ h => h) ?_
        rotate_left
        focus (intro w'; (try simp only [List.getElem_toArray, List.getElem_cons_zero, List.getElem_cons_succ]); go_simp; try with_reducible rfl)
        (try simp only [List.getElem_toArray, List.getElem_cons_zero, List.getElem_cons_succ, Act.put, List.setIfInBounds_toArray, List.set_cons_zero, List.set_cons_succ])
        (try unfold wpTree)
        go_wp2
        go_ret
        exact ⟨by rw [idxB_at hlt (fun j hj => hno.out j hj (by omega)) (by rw [← hqe.out]; exact decide_eq_true rfl)]; rfl, hbw.out.drew⟩
      · have hnx : Hid (∀ j (hj : j < k + 1) (hj2 : j < l.length), decide (l[j] = p) = false) := fun j hj hj2 => by
          rcases Nat.lt_or_ge j k with h1 | h1
          · exact hno.out j h1 hj2
          · obtain rfl : j = k := by omega
            rw [← hqe.out]; exact decide_eq_false hq
        by_cases hx : p.x = q.x
        · have hy : ¬ p.y = q.y := fun hy => hq (by cases p; cases q; simp_all)
          go_wp2
          refine wp_region_tree (fun W' => Below wr.heap.size wr W') (.read 0 (.pure 1 (.pure 2 (.pure 3 (.read 4 (.pure 5 .done)))))) [] (by kernel_rfl) (by kernel_rfl) ((Below.refl _ _).drew) ?_
          refine wpTree_take (v := ?_) rfl (by rfl) ?_ (fun _ _ _ h => h) ?_
          rotate_left
          focus (intro w' hSw; obtain ⟨⟨z0, z1⟩, p0, p1⟩ := hcl.out _ hSw; clear hSw; (try simp only [List.getElem_toArray, List.getElem_cons_zero, List.getElem_cons_succ]); go_simp; try with_reducible rfl)
          (try simp only [List.getElem_toArray, List.getElem_cons_zero, List.getElem_cons_succ, Act.put, List.setIfInBounds_toArray, List.set_cons_zero, List.set_cons_succ])
          refine wpTree_pure (v := ?_) rfl (by rfl) ?_ (fun _ _ _ h => h) ?_
          rotate_left
          focus (intro w'; (try simp only [List.getElem_toArray, List.getElem_cons_zero, List.getElem_cons_succ]); go_simp; try with_reducible rfl)
          (try simp only [List.getElem_toArray, List.getElem_cons_zero, List.getElem_cons_succ, Act.put, List.setIfInBounds_toArray, List.set_cons_zero, List.set_cons_succ])
          refine wpTree_pure (v := ?_) rfl (by rfl) ?_ (fun _ _ _ h => h) ?_
          rotate_left
          focus (intro w'; (try simp only [List.getElem_toArray, List.getElem_cons_zero, List.getElem_cons_succ]); go_simp; try with_reducible rfl)
          (try simp only [List.getElem_toArray, List.getElem_cons_zero, List.getElem_cons_succ, Act.put, List.setIfInBounds_toArray, List.set_cons_zero, List.set_cons_succ])
          refine wpTree_pure (v := ?_) rfl (by rfl) ?_ (fun _ _ _ h => h) ?_
          rotate_left
          focus (intro w'; (try simp only [List.getElem_toArray, List.getElem_cons_zero, List.getElem_cons_succ]); go_simp; try with_reducible rfl)
          (try simp only [List.getElem_toArray, List.getElem_cons_zero, List.getElem_cons_succ, Act.put, List.setIfInBounds_toArray, List.set_cons_zero, List.set_cons_succ])
          refine wpTree_take (v := ?_) rfl (by rfl) ?_ (fun _ _ _ h => h) ?_
          rotate_left
          focus (intro w' hSw; obtain ⟨⟨z0, z1⟩, p0, p1⟩ := hcl.out _ hSw; clear hSw; (try simp only [List.getElem_toArray, List.getElem_cons_zero, List.getElem_cons_succ]); go_simp; try with_reducible rfl)
          (try simp only [List.getElem_toArray, List.getElem_cons_zero, List.getElem_cons_succ, Act.put, List.setIfInBounds_toArray, List.set_cons_zero, List.set_cons_succ])
          refine wpTree_pure (v := ?_) rfl (by rfl) ?_ (fun _ _ _ h => h) ?_
          rotate_left
          focus (intro w'; (try simp only [List.getElem_toArray, List.getElem_cons_zero, List.getElem_cons_succ]); go_simp; try with_reducible rfl)
          (try simp only [List.getElem_toArray, List.getElem_cons_zero, List.getElem_cons_succ, Act.put, List.setIfInBounds_toArray, List.set_cons_zero, List.set_cons_succ])
          (try unfold wpTree)
          go_wp2
          exact ⟨⟨k + 1, by go_num, by omega, hnx.out, hbw.out.drew, hbk.out⟩, by simp only [intOf]; omega⟩
        · go_wp2
          refine wp_region_tree (fun W' => Below wr.heap.size wr W') (.read 0 (.pure 1 (.pure 2 (.pure 3 (.read 4 (.pure 5 .done)))))) [] (by kernel_rfl) (by kernel_rfl) ((Below.refl _ _).drew) ?_
          refine wpTree_take (v := ?_) rfl (by rfl) ?_ (fun _ _ _ h => h) ?_
          rotate_left
          focus (intro w' hSw; obtain ⟨⟨z0, z1⟩, p0, p1⟩ := hcl.out _ hSw; clear hSw; (try simp only [List.getElem_toArray, List.getElem_cons_zero, List.getElem_cons_succ]); go_simp; try with_reducible rfl)
          (try simp only [List.getElem_toArray, List.getElem_cons_zero, List.getElem_cons_succ, Act.put, List.setIfInBounds_toArray, List.set_cons_zero, List.set_cons_succ])
          refine wpTree_pure (v := ?_) rfl (by rfl) ?_ (fun _ _ _ h => h) ?_
          rotate_left
          focus (intro w'; (try simp only [List.getElem_toArray, List.getElem_cons_zero, List.getElem_cons_succ]); go_simp; try with_reducible rfl)
          (try simp only [List.getElem_toArray, List.getElem_cons_zero, List.getElem_cons_succ, Act.put, List.setIfInBounds_toArray, List.set_cons_zero, List.set_cons_succ])
          refine wpTree_pure (v := ?_) rfl (by rfl) ?_ (fun _ _ _ h => h) ?_
          rotate_left
          focus (intro w'; (try simp only [List.getElem_toArray, List.getElem_cons_zero, List.getElem_cons_succ]); go_simp; try with_reducible rfl)
          (try simp only [List.getElem_toArray, List.getElem_cons_zero, List.getElem_cons_succ, Act.put, List.setIfInBounds_toArray, List.set_cons_zero, List.set_cons_succ])
          refine wpTree_pure (v := ?_) rfl (by rfl) ?_ (fun _ _ _ h => h) ?_
          rotate_left
          focus (intro w'; (try simp only [List.getElem_toArray, List.getElem_cons_zero, List.getElem_cons_succ]); go_simp; try with_reducible rfl)
          (try simp only [List.getElem_toArray, List.getElem_cons_zero, List.getElem_cons_succ, Act.put, List.setIfInBounds_toArray, List.set_cons_zero, List.set_cons_succ])
          refine wpTree_take (v := ?_) rfl (by rfl) ?_ (fun _ _ _ h => h) ?_
          rotate_left
          focus (intro w' hSw; obtain ⟨⟨z0, z1⟩, p0, p1⟩ := hcl.out _ hSw; clear hSw; (try simp only [List.getElem_toArray, List.getElem_cons_zero, List.getElem_cons_succ]); go_simp; try with_reducible rfl)
          (try simp only [List.getElem_toArray, List.getElem_cons_zero, List.getElem_cons_succ, Act.put, List.setIfInBounds_toArray, List.set_cons_zero, List.set_cons_succ])
          refine wpTree_pure (v := ?_) rfl (by rfl) ?_ (fun _ _ _ h => h) ?_
          rotate_left
          focus (intro w'; (try simp only [List.getElem_toArray, List.getElem_cons_zero, List.getElem_cons_succ]); go_simp; try with_reducible rfl)
          (try simp only [List.getElem_toArray, List.getElem_cons_zero, List.getElem_cons_succ, Act.put, List.setIfInBounds_toArray, List.set_cons_zero, List.set_cons_succ])
          (try unfold wpTree)
          go_wp2
          exact ⟨⟨k + 1, by go_num, by omega, hnx.out, hbw.out.drew, hbk.out⟩, by simp only [intOf]; omega⟩
    · obtain rfl : k = l.length := by omega
      go_wp2
      go_ret
      exact ⟨by rw [idxB_none fun j hj => hno.out j hj hj]; rfl, hbw.out⟩
theorem any_eq (l : List Pnt) (p : Pnt) (w : World) (A : Option Addr) (c : Nat) (hA : RdPnts w A l) (hl : l.length ≤ 1000000) :
    Calls Tryd.prog 82 #[.slice A l.length c, pntVal p] w fun e w' => e = .returned (.bool (l.any fun q => decide (q = p))) ∧ Below w.heap.size w w' := by
  have hg := Lib.hid (idxB_ge (fun q => decide (q = p)) l)
  obtain ⟨x, hx⟩ : ∃ x, x = idxB (fun q => decide (q = p)) l := ⟨_, rfl⟩
  obtain ⟨W0, hW0⟩ : ∃ W0, W0 = w.alloc (.cells #[.int .i64 p.x, .int .i64 p.y] 39) := ⟨_, rfl⟩
  have hB0 : Below w.heap.size w W0 := by rw [hW0]; exact (Below.refl _ w).alloc (Nat.le_refl _) _
  obtain ⟨z0, z1⟩ := cells2 (show W0.heap[w.heap.size]? = some (.cells #[.int .i64 p.x, .int .i64 p.y] 39 (0, 0)) by rw [hW0]; exact heap_new _ _ _ rfl)
  have h1 := hx ▸ index_any A c l p W0 (hA.below hB0) hl
  rw [← hx] at hg
  replace h1 := Lib.hid h1
  replace hx := Lib.hid hx
  replace hB0 := Lib.hid hB0
  go_enter Tryd.func82, Tryd.ntmps82
  go_wp2_with fail
  rw [← hW0]
  replace hW0 := Lib.hid hW0
  go_wp2_with (go_at_call 118; (with_reducible refine h1.out.mono ?_); rintro e w1 ⟨rfl, hb1⟩)
  go_ret
  exact ⟨by rw [← hg.out]; rfl, hB0.out.trans (hb1.mono hB0.out.size)⟩
end Go.Proofs.YthojfhdenfhjfaaDoor
end
section
namespace Go.Proofs.YthojfhdenfhjfaaDoor
open Go.RowKit Go.Lib Go.Shelf

abbrev fCells (f : Face) : Array Value := #[.string f.name, .int .i64 f.side, .int .i64 f.foot, .int .i64 f.base, .int .i64 f.rise, .int .i64 f.run, .slice f.ca f.corners.length f.cc]
theorem RdFaces.take {w : World} {A : Option Addr} {l : List Face} (h : RdFaces w A l) (i : Nat) : RdFaces w A (l.take i) :=
  ⟨⟨Nat.le_trans (by rw [List.length_take]; omega) h.1.1, fun j x hj => h.1.2 j x (by rw [List.getElem?_take] at hj; split at hj; exact hj; cases hj)⟩, fun f hf => h.2 f (List.mem_of_mem_take hf)⟩
theorem RdPnts.take {w : World} {A : Option Addr} {l : List Pnt} (h : RdPnts w A l) (i : Nat) : RdPnts w A (l.take i) :=
  ⟨Nat.le_trans (by rw [List.length_take]; omega) h.1, fun j x hj => h.2 j x (by rw [List.getElem?_take] at hj; split at hj; exact hj; cases hj)⟩
theorem getD_mem {α : Type} [Inhabited α] {l : List α} {k : Nat} (hk : k < l.length) : l.getD k default ∈ l := by
  have : l.getD k default = l[k] := by simp [List.getD_eq_getElem?_getD, hk]
  rw [this]; exact List.getElem_mem hk
theorem inPlan_small {p : Pnt} (h : inPlan p = true) : SmP p 1000000 := by
  unfold inPlan inB at h
  simp only [Bool.and_eq_true, decide_eq_true_eq] at h
  unfold SmP
  omega
set_option maxHeartbeats 2000000 in
set_option maxRecDepth 100000 in
theorem checkFace_any (A : Option Addr) (c : Nat) (l : List Face) (i : Nat) (w : World) (hA : RdFaces w A l) (hi : i < l.length) (hl : l.length ≤ 100000) (hc : l.length ≤ c) :
    Calls Tryd.prog 43 #[.slice A l.length c, .int .i64 (i : Int)] w fun e w' => e = .returned (.int .i64 (faceErr l i)) ∧ Below w.heap.size w w' := by
  obtain ⟨f, hf⟩ : ∃ f, f = l.getD i default := ⟨_, rfl⟩
  have hfm : f ∈ l := by rw [hf]; exact getD_mem hi
  obtain ⟨hP, hnm, hcc⟩ := hA.2 f hfm
  obtain ⟨ad, hA', p0, p1, p2, p3, p4, p5, p6⟩ := hA.at7 hi
  rw [← hf] at p0 p1 p2 p3 p4 p5 p6
  have hE : faceErr l i = (if nameB f.name = false then 5
    else if (l.take i).any (fun g => decide (g.name = f.name)) = true then 6
    else if argB f = false then 1
    else if 12 < f.corners.length then 3
    else if (decide (f.corners.length < 3) || f.corners.any fun p => !inPlan p) = true then 1
    else if twiceB f.corners = true then 6
    else if convexB f.corners = false then 9 else 0) := by rw [hf]; rfl
  have hab : argB f = (inB f.side 1 4 && inB f.foot 0 10000 && inB f.base 0 10000 && inB f.rise 1 100 && inB f.run 1 100) := rfl
  obtain ⟨W1, hW1⟩ : ∃ W1, W1 = w.alloc (.cells (fCells f) 45) := ⟨_, rfl⟩
  have hB1 : Hid (Below w.heap.size w W1) := by rw [hW1]; exact (Below.refl _ w).alloc (Nat.le_refl _) _
  have hb1 : Hid (W1.heap[w.heap.size]? = some (.cells (fCells f) 45 (0, 0))) := by rw [hW1]; exact heap_new _ _ _ rfl
  have hsz1 : Hid (W1.heap.size = w.heap.size + 1) := by rw [hW1]; exact World.size_alloc _ _
  obtain ⟨z0, z1, z2, z3, z4, z5, z6⟩ := cells7 hb1.out
  -- the calls
  obtain ⟨nb, hnb⟩ : ∃ nb, nb = nameB f.name := ⟨_, rfl⟩
  obtain ⟨tb, htb⟩ : ∃ tb, tb = (l.take i).any (fun g => decide (g.name = f.name)) := ⟨_, rfl⟩
  obtain ⟨b1, hq1⟩ : ∃ b, b = inB f.side 1 4 := ⟨_, rfl⟩
  obtain ⟨b2, hq2⟩ : ∃ b, b = inB f.foot 0 10000 := ⟨_, rfl⟩
  obtain ⟨b3, hq3⟩ : ∃ b, b = inB f.base 0 10000 := ⟨_, rfl⟩
  obtain ⟨b4, hq4⟩ : ∃ b, b = inB f.rise 1 100 := ⟨_, rfl⟩
  obtain ⟨b5, hq5⟩ : ∃ b, b = inB f.run 1 100 := ⟨_, rfl⟩
  obtain ⟨pb, hpb⟩ : ∃ b, b = (f.corners.any fun p => !inPlan p) := ⟨_, rfl⟩
  obtain ⟨cv, hcv⟩ : ∃ b, b = convexB f.corners := ⟨_, rfl⟩
  rw [← hq1, ← hq2, ← hq3, ← hq4, ← hq5] at hab
  rw [← hnb, ← htb, hab, ← hpb, ← hcv] at hE
  have c77 : Hid (∀ W, Calls Tryd.prog 77 #[.string f.name] W fun e w' => e = .returned (.bool nb) ∧ Below W.heap.size W w') := fun W => by rw [hnb]; exact isName_any f.name W (by omega)
  have hli : (l.take i).length = i := by rw [List.length_take]; omega
  have c78 : Hid (∀ W, Below w.heap.size w W → W.cell? ⟨w.heap.size, 0, none⟩ = some (.string f.name) → Calls Tryd.prog 78 #[.slice A i c, .func (.func 79) #[] #[.pointer (some ⟨w.heap.size, 0, none⟩)]] W fun e w' => e = .returned (.bool tb) ∧ Below W.heap.size W w') := fun W hW hz => by
    have h := hasFace_any A c (l.take i) W ((hA.take i).below hW) (by omega) 79 #[.pointer (some ⟨w.heap.size, 0, none⟩)] (enters_of Tryd.func79 (by kernel_rfl) rfl) (fun g => decide (g.name = f.name)) (fun q _ W' hW' => face1_any q f w.heap.size W' ((hW'.cell (World.block_lt_of_cell? _ _ hz)).trans hz))
    rw [hli, ← htb] at h
    exact h
  have c80 : Hid (∀ W, Below w.heap.size w W → f.corners.length ≤ 12 → Calls Tryd.prog 80 #[.slice f.ca f.corners.length f.cc, .func (.func 81) #[] #[]] W fun e w' => e = .returned (.bool pb) ∧ Below W.heap.size W w') := fun W hW h12 => by
    have h := hasAt_any f.ca f.cc f.corners W (hP.below hW) (by omega) 81 #[] (enters_of Tryd.func81 (by kernel_rfl) rfl) (fun p => !inPlan p) (fun q _ W' _ => face2_any q W')
    rw [← hpb] at h
    exact h
  have k1 : Hid (∀ W, Calls Tryd.prog 51 #[.int .i64 f.side, .int .i64 1, .int .i64 4] W fun e w' => e = .returned (.bool b1) ∧ W = w') := fun W => by rw [hq1]; exact in_any _ _ _ W
  have k2 : Hid (∀ W, Calls Tryd.prog 51 #[.int .i64 f.foot, .int .i64 0, .int .i64 10000] W fun e w' => e = .returned (.bool b2) ∧ W = w') := fun W => by rw [hq2]; exact in_any _ _ _ W
  have k3 : Hid (∀ W, Calls Tryd.prog 51 #[.int .i64 f.base, .int .i64 0, .int .i64 10000] W fun e w' => e = .returned (.bool b3) ∧ W = w') := fun W => by rw [hq3]; exact in_any _ _ _ W
  have k4 : Hid (∀ W, Calls Tryd.prog 51 #[.int .i64 f.rise, .int .i64 1, .int .i64 100] W fun e w' => e = .returned (.bool b4) ∧ W = w') := fun W => by rw [hq4]; exact in_any _ _ _ W
  have k5 : Hid (∀ W, Calls Tryd.prog 51 #[.int .i64 f.run, .int .i64 1, .int .i64 100] W fun e w' => e = .returned (.bool b5) ∧ W = w') := fun W => by rw [hq5]; exact in_any _ _ _ W
  have hEh := Lib.hid hE
  clear hE hab
  replace hf := Lib.hid hf
  replace hnb := Lib.hid hnb
  replace htb := Lib.hid htb
  replace hq1 := Lib.hid hq1
  replace hq2 := Lib.hid hq2
  replace hq3 := Lib.hid hq3
  replace hq4 := Lib.hid hq4
  replace hq5 := Lib.hid hq5
  replace hpb := Lib.hid hpb
  replace hcv := Lib.hid hcv
  replace hli := Lib.hid hli
  subst hA'
  go_enter Tryd.func43, Tryd.ntmps43
  go_wp2_with fail
  rw [← hW1]
  replace hW1 := Lib.hid hW1
  cases nb with
  | false =>
    go_wp2_with (go_at_call 77; (with_reducible refine (c77.out _).mono ?_); rintro e w1 ⟨rfl, hbb⟩)
    go_ret
    exact ⟨by rw [hEh.out]; rfl, hB1.out.trans (hbb.mono hB1.out.size)⟩
  | true =>
    go_wp2_with (go_at_call 77; (with_reducible refine (c77.out _).mono ?_); rintro e w1 ⟨rfl, hbb⟩; have hB2 : Hid (Below w.heap.size w w1) := hB1.out.trans (hbb.mono hB1.out.size); have hk2 : Hid (w1.heap[w.heap.size]? = some (.cells (fCells f) 45 (0, 0))) := (hbb.block _ (lt_block hb1.out)).trans hb1.out; obtain ⟨y0, y1, y2, y3, y4, y5, y6⟩ := cells7 hk2.out)
    cases tb with
    | true =>
      go_wp2_with (go_at_call 78; (with_reducible refine (c78.out _ hB2.out (by assumption)).mono ?_); rintro e w2 ⟨rfl, hbb2⟩)
      go_ret
      exact ⟨by rw [hEh.out]; rfl, hB2.out.trans (hbb2.mono hB2.out.size)⟩
    | false =>
      go_wp2_with (go_at_call 78; (with_reducible refine (c78.out _ hB2.out (by assumption)).mono ?_); rintro e w2 ⟨rfl, hbb2⟩; clear y0 y1 y2 y3 y4 y5 y6; have hB3 : Hid (Below w.heap.size w w2) := hB2.out.trans (hbb2.mono hB2.out.size); have hk3 : Hid (w2.heap[w.heap.size]? = some (.cells (fCells f) 45 (0, 0))) := (hbb2.block _ (lt_block hk2.out)).trans hk2.out; obtain ⟨y0, y1, y2, y3, y4, y5, y6⟩ := cells7 hk3.out)
      cases b1 with
      | false =>
        go_wp2_with (go_at_call 51; (with_reducible refine (k1.out _).mono ?_); rintro e w3 ⟨rfl, rfl⟩)
        go_ret
        exact ⟨by rw [hEh.out]; simp, hB3.out⟩
      | true =>
        go_wp2_with (go_at_call 51; (with_reducible refine (k1.out _).mono ?_); rintro e w3 ⟨rfl, rfl⟩)
        cases b2 with
        | false =>
          go_wp2_with (go_at_call 51; (with_reducible refine (k2.out _).mono ?_); rintro e w4 ⟨rfl, rfl⟩)
          go_ret
          exact ⟨by rw [hEh.out]; simp, hB3.out⟩
        | true =>
          go_wp2_with (go_at_call 51; (with_reducible refine (k2.out _).mono ?_); rintro e w4 ⟨rfl, rfl⟩)
          cases b3 with
          | false =>
            go_wp2_with (go_at_call 51; (with_reducible refine (k3.out _).mono ?_); rintro e w5 ⟨rfl, rfl⟩)
            go_ret
            exact ⟨by rw [hEh.out]; simp, hB3.out⟩
          | true =>
            go_wp2_with (go_at_call 51; (with_reducible refine (k3.out _).mono ?_); rintro e w5 ⟨rfl, rfl⟩)
            cases b4 with
            | false =>
              go_wp2_with (go_at_call 51; (with_reducible refine (k4.out _).mono ?_); rintro e w6 ⟨rfl, rfl⟩)
              go_ret
              exact ⟨by rw [hEh.out]; simp, hB3.out⟩
            | true =>
              go_wp2_with (go_at_call 51; (with_reducible refine (k4.out _).mono ?_); rintro e w6 ⟨rfl, rfl⟩)
              cases b5 with
              | false =>
                go_wp2_with (go_at_call 51; (with_reducible refine (k5.out _).mono ?_); rintro e w7 ⟨rfl, rfl⟩)
                go_ret
                exact ⟨by rw [hEh.out]; simp, hB3.out⟩
              | true =>
                by_cases h12 : 12 < f.corners.length
                · have h12' : 12 < (f.corners.length : Int) := by omega
                  go_wp2_with (go_at_call 51; (with_reducible refine (k5.out _).mono ?_); rintro e w7 ⟨rfl, rfl⟩)
                  go_ret
                  exact ⟨by rw [hEh.out]; simp [h12], hB3.out⟩
                have h12' : ¬ 12 < (f.corners.length : Int) := by omega
                by_cases h3 : f.corners.length < 3
                · have h3' : (f.corners.length : Int) < 3 := by omega
                  go_wp2_with (go_at_call 51; (with_reducible refine (k5.out _).mono ?_); rintro e w7 ⟨rfl, rfl⟩)
                  go_ret
                  exact ⟨by rw [hEh.out]; simp [h12, h3], hB3.out⟩
                have h3' : ¬ (f.corners.length : Int) < 3 := by omega
                go_wp2_with (go_at_call 51; (with_reducible refine (k5.out _).mono ?_); rintro e w7 ⟨rfl, rfl⟩)
                cases pb with
                | true =>
                  go_wp2_with (go_at_call 80; (with_reducible refine (c80.out _ hB3.out (by omega)).mono ?_); rintro e w8 ⟨rfl, hb8⟩)
                  go_ret
                  exact ⟨by rw [hEh.out]; simp [h12], hB3.out.trans (hb8.mono hB3.out.size)⟩
                | false =>
                  go_wp2_with (go_at_call 80; (with_reducible refine (c80.out _ hB3.out (by omega)).mono ?_); rintro e w8 ⟨rfl, hb8⟩; clear y0 y1 y2 y3 y4 y5 y6; have hB4 : Hid (Below w.heap.size w w8) := hB3.out.trans (hb8.mono hB3.out.size); have hk4 : Hid (w8.heap[w.heap.size]? = some (.cells (fCells f) 45 (0, 0))) := (hb8.block _ (lt_block hk3.out)).trans hk3.out; obtain ⟨y0, y1, y2, y3, y4, y5, y6⟩ := cells7 hk4.out)
                  obtain ⟨ad2, hca, _⟩ := hP.at2 (show 0 < f.corners.length by omega)
                  rw [hca]
                  rw [hca] at y6
                  have hPo : Hid (RdPnts w (some ad2) f.corners) := by unfold Hid; rw [← hca]; exact hP
                  have c83 : Hid (∀ W, Below w.heap.size w W → Calls Tryd.prog 83 #[.slice (some ad2) f.corners.length f.cc] W fun e w' => e = .returned (.bool cv) ∧ Below W.heap.size W w') := fun W hW => by
                    rw [hcv.out]
                    exact convex_any (some ad2) f.cc f.corners W (hPo.out.below hW) (by omega) (fun q hq => inPlan_small (by have h := List.any_eq_false.1 hpb.out.symm q hq; simpa using h))
                  replace hca := Lib.hid hca
                  go_loopw [70] (fun i wr => ∃ k : Nat, i = .int .i64 k ∧ k ≤ f.corners.length ∧ Hid (∀ j, j < k → ((f.corners.take j).any fun p => decide (p = f.corners.getD j default)) = false) ∧ Hid (Below w.heap.size w wr) ∧ Hid (wr.heap[w.heap.size]? = some (.cells (fCells f) 45 (0, 0)))) (fun i _ => f.corners.length - (intOf i).toNat)
                  case atStart => exact ⟨0, rfl, Nat.zero_le _, fun j hj => absurd hj (Nat.not_lt_zero _), hB4.out, hk4.out⟩
                  case round =>
                    obtain ⟨k, rfl, hk, hno, hbw, hbk⟩ := hrel
                    clear y0 y1 y2 y3 y4 y5 y6
                    by_cases hlt : k < f.corners.length
                    · obtain ⟨ad3, hA3, q0, q1⟩ := (hPo.out.below hbw.out).at2 hlt
                      cases hA3
                      obtain ⟨p, hp⟩ : ∃ p, p = f.corners.getD k default := ⟨_, rfl⟩
                      rw [← hp] at q0 q1
                      obtain ⟨rb, hrb⟩ : ∃ rb, rb = ((f.corners.take k).any fun q => decide (q = p)) := ⟨_, rfl⟩
                      have hnx : Hid (rb = false → ∀ j, j < k + 1 → ((f.corners.take j).any fun p => decide (p = f.corners.getD j default)) = false) := fun e j hj => by
                        rcases Nat.lt_or_ge j k with h1 | h1
                        · exact hno.out j h1
                        · obtain rfl : j = k := by omega
                          rw [← hp, ← hrb, e]
                      have htw : Hid (rb = true → twiceB f.corners = true) := fun e => List.any_eq_true.2 ⟨k, List.mem_range.2 hlt, by rw [← hp, ← hrb, e]⟩
                      have hlk : (f.corners.take k).length = k := by rw [List.length_take]; omega
                      have c82 : Hid (∀ W, Below (wr.alloc (.cells #[.int .i64 p.x, .int .i64 p.y] 39)).heap.size (wr.alloc (.cells #[.int .i64 p.x, .int .i64 p.y] 39)) W → Calls Tryd.prog 82 #[.slice (some ad2) k f.cc, pntVal p] W fun e w' => e = .returned (.bool rb) ∧ Below W.heap.size W w') := fun W hW => by
                        have hW' : Below w.heap.size w W := hbw.out.trans ((((Below.refl _ _).alloc (Nat.le_refl _) _).trans (hW.mono (by simp))).mono hbw.out.size)
                        have h := any_eq (f.corners.take k) p W (some ad2) f.cc ((hPo.out.take k).below hW') (by omega)
                        rw [hlk, ← hrb] at h
                        exact h
                      have hcl : Hid (∀ W', Below (wr.alloc (.cells #[.int .i64 p.x, .int .i64 p.y] 39)).heap.size (wr.alloc (.cells #[.int .i64 p.x, .int .i64 p.y] 39)) W' → W'.cell? ⟨w.heap.size, 6, none⟩ = some (.slice (some ad2) f.corners.length f.cc) ∧ (W'.cell? ⟨wr.heap.size, 0, none⟩ = some (.int .i64 p.x) ∧ W'.cell? ⟨wr.heap.size, 1, none⟩ = some (.int .i64 p.y))) := fun W' h => by
                        have a1 := heap_old wr (.cells #[.int .i64 p.x, .int .i64 p.y] 39) _ _ hbk.out
                        have a2 := heap_new wr (.cells #[.int .i64 p.x, .int .i64 p.y] 39) _ rfl
                        have a3 := (cells7 ((h.block _ (lt_block a1)).trans a1)).2.2.2.2.2.2
                        rw [hca.out] at a3
                        exact ⟨a3, cells2 ((h.block _ (lt_block a2)).trans a2)⟩
                      have fin : Hid (∀ W', Below (wr.alloc (.cells #[.int .i64 p.x, .int .i64 p.y] 39)).heap.size (wr.alloc (.cells #[.int .i64 p.x, .int .i64 p.y] 39)) W' → Below w.heap.size w W' ∧ W'.heap[w.heap.size]? = some (.cells (fCells f) 45 (0, 0))) := fun W' h => by
                        have a1 := heap_old wr (.cells #[.int .i64 p.x, .int .i64 p.y] 39) _ _ hbk.out
                        exact ⟨hbw.out.trans ((((Below.refl _ _).alloc (Nat.le_refl _) _).trans (h.mono (by simp))).mono hbw.out.size), (h.block _ (lt_block a1)).trans a1⟩
                      replace hp := Lib.hid hp
                      replace hrb := Lib.hid hrb
                      replace hlk := Lib.hid hlk
                      have hkc : k ≤ f.cc := by omega
                      have hwk : IntKind.i64.wrap ((k : Int) + 1) = (k : Int) + 1 := IntWalk.i64_in _ (by omega)
                      go_wp2
                      have hSd : Below (wr.alloc (.cells #[.int .i64 p.x, .int .i64 p.y] 39)).heap.size (wr.alloc (.cells #[.int .i64 p.x, .int .i64 p.y] 39)) (wr.alloc (.cells #[.int .i64 p.x, .int .i64 p.y] 39)).drew := (Below.refl _ _).drew
                      cases rb
                      · refine wp_region_tree (fun W' => Below (wr.alloc (.cells #[.int .i64 p.x, .int .i64 p.y] 39)).heap.size (wr.alloc (.cells #[.int .i64 p.x, .int .i64 p.y] 39)) W') (.pure 0 (.read 1 (.pure 2 (.pure 3 (.read 4 (.one 5 .done)))))) [] (by kernel_rfl) (by kernel_rfl) hSd ?_
                        refine wpTree_pure (v := ?_) rfl (by rfl) ?_ (fun _ _ _ h => h) ?_
                        rotate_left
                        focus (intro w'; (try simp only [List.getElem_toArray, List.getElem_cons_zero, List.getElem_cons_succ]); go_simp; try with_reducible rfl)
                        (try simp only [List.getElem_toArray, List.getElem_cons_zero, List.getElem_cons_succ, Act.put, List.setIfInBounds_toArray, List.set_cons_zero, List.set_cons_succ])
                        refine wpTree_take (v := ?_) rfl (by rfl) ?_ (fun _ _ _ h => h) ?_
                        rotate_left
                        focus (intro w' hSw; obtain ⟨z6, q0, q1⟩ := hcl.out _ hSw; clear hSw; (try simp only [List.getElem_toArray, List.getElem_cons_zero, List.getElem_cons_succ]); go_simp; try with_reducible rfl)
                        (try simp only [List.getElem_toArray, List.getElem_cons_zero, List.getElem_cons_succ, Act.put, List.setIfInBounds_toArray, List.set_cons_zero, List.set_cons_succ])
                        refine wpTree_pure (v := ?_) rfl (by rfl) ?_ (fun _ _ _ h => h) ?_
                        rotate_left
                        focus (intro w'; (try simp only [List.getElem_toArray, List.getElem_cons_zero, List.getElem_cons_succ]); go_simp; try with_reducible rfl)
                        (try simp only [List.getElem_toArray, List.getElem_cons_zero, List.getElem_cons_succ, Act.put, List.setIfInBounds_toArray, List.set_cons_zero, List.set_cons_succ])
                        refine wpTree_pure (v := ?_) rfl (by rfl) ?_ (fun _ _ _ h => h) ?_
                        rotate_left
                        focus (intro w'; (try simp only [List.getElem_toArray, List.getElem_cons_zero, List.getElem_cons_succ]); go_simp; try with_reducible rfl)
                        (try simp only [List.getElem_toArray, List.getElem_cons_zero, List.getElem_cons_succ, Act.put, List.setIfInBounds_toArray, List.set_cons_zero, List.set_cons_succ])
                        refine wpTree_take (v := ?_) rfl (by rfl) ?_ (fun _ _ _ h => h) ?_
                        rotate_left
                        focus (intro w' hSw; obtain ⟨z6, q0, q1⟩ := hcl.out _ hSw; clear hSw; (try simp only [List.getElem_toArray, List.getElem_cons_zero, List.getElem_cons_succ]); go_simp; try with_reducible rfl)
                        (try simp only [List.getElem_toArray, List.getElem_cons_zero, List.getElem_cons_succ, Act.put, List.setIfInBounds_toArray, List.set_cons_zero, List.set_cons_succ])
                        refine wpTree_do rfl (by rfl) ?_
                        (try simp only [List.getElem_toArray, List.getElem_cons_zero, List.getElem_cons_succ])
                        go_simp
                        go_at_call 82
                        (with_reducible refine (c82.out _ hSd).mono ?_)
                        rintro e wc ⟨rfl, hbc⟩
                        have hSc := hSd.trans (hbc.mono hSd.size)
                        refine ⟨by intros; first | exact hSc | simpa using hSc, ?_⟩
                        (try simp only [List.getElem_toArray, List.getElem_cons_zero, List.getElem_cons_succ, Act.put, List.setIfInBounds_toArray, List.set_cons_zero, List.set_cons_succ])
                        (try unfold wpTree)
                        obtain ⟨f1, f2⟩ := fin.out _ hSc
                        go_wp2
                        exact ⟨⟨k + 1, by go_num, by omega, hnx.out rfl, f1, f2⟩, by simp only [intOf]; omega⟩
                      · refine wp_region_tree (fun W' => Below (wr.alloc (.cells #[.int .i64 p.x, .int .i64 p.y] 39)).heap.size (wr.alloc (.cells #[.int .i64 p.x, .int .i64 p.y] 39)) W') (.pure 0 (.read 1 (.pure 2 (.pure 3 (.read 4 (.one 5 .done)))))) [] (by kernel_rfl) (by kernel_rfl) hSd ?_
                        refine wpTree_pure (v := ?_) rfl (by rfl) ?_ (fun _ _ _ h => h) ?_
                        rotate_left
                        focus (intro w'; (try simp only [List.getElem_toArray, List.getElem_cons_zero, List.getElem_cons_succ]); go_simp; try with_reducible rfl)
                        (try simp only [List.getElem_toArray, List.getElem_cons_zero, List.getElem_cons_succ, Act.put, List.setIfInBounds_toArray, List.set_cons_zero, List.set_cons_succ])
                        refine wpTree_take (v := ?_) rfl (by rfl) ?_ (fun _ _ _ h => h) ?_
                        rotate_left
                        focus (intro w' hSw; obtain ⟨z6, q0, q1⟩ := hcl.out _ hSw; clear hSw; (try simp only [List.getElem_toArray, List.getElem_cons_zero, List.getElem_cons_succ]); go_simp; try with_reducible rfl)
                        (try simp only [List.getElem_toArray, List.getElem_cons_zero, List.getElem_cons_succ, Act.put, List.setIfInBounds_toArray, List.set_cons_zero, List.set_cons_succ])
                        refine wpTree_pure (v := ?_) rfl (by rfl) ?_ (fun _ _ _ h => h) ?_
                        rotate_left
                        focus (intro w'; (try simp only [List.getElem_toArray, List.getElem_cons_zero, List.getElem_cons_succ]); go_simp; try with_reducible rfl)
                        (try simp only [List.getElem_toArray, List.getElem_cons_zero, List.getElem_cons_succ, Act.put, List.setIfInBounds_toArray, List.set_cons_zero, List.set_cons_succ])
                        refine wpTree_pure (v := ?_) rfl (by rfl) ?_ (fun _ _ _ h => h) ?_
                        rotate_left
                        focus (intro w'; (try simp only [List.getElem_toArray, List.getElem_cons_zero, List.getElem_cons_succ]); go_simp; try with_reducible rfl)
                        (try simp only [List.getElem_toArray, List.getElem_cons_zero, List.getElem_cons_succ, Act.put, List.setIfInBounds_toArray, List.set_cons_zero, List.set_cons_succ])
                        refine wpTree_take (v := ?_) rfl (by rfl) ?_ (fun _ _ _ h => h) ?_
                        rotate_left
                        focus (intro w' hSw; obtain ⟨z6, q0, q1⟩ := hcl.out _ hSw; clear hSw; (try simp only [List.getElem_toArray, List.getElem_cons_zero, List.getElem_cons_succ]); go_simp; try with_reducible rfl)
                        (try simp only [List.getElem_toArray, List.getElem_cons_zero, List.getElem_cons_succ, Act.put, List.setIfInBounds_toArray, List.set_cons_zero, List.set_cons_succ])
                        refine wpTree_do rfl (by rfl) ?_
                        (try simp only [List.getElem_toArray, List.getElem_cons_zero, List.getElem_cons_succ])
                        go_simp
                        go_at_call 82
                        (with_reducible refine (c82.out _ hSd).mono ?_)
                        rintro e wc ⟨rfl, hbc⟩
                        have hSc := hSd.trans (hbc.mono hSd.size)
                        refine ⟨by intros; first | exact hSc | simpa using hSc, ?_⟩
                        (try simp only [List.getElem_toArray, List.getElem_cons_zero, List.getElem_cons_succ, Act.put, List.setIfInBounds_toArray, List.set_cons_zero, List.set_cons_succ])
                        (try unfold wpTree)
                        obtain ⟨f1, f2⟩ := fin.out _ hSc
                        go_wp2
                        go_ret
                        exact ⟨by rw [hEh.out]; simp [h12, h3, show twiceB f.corners = true by first | exact htw.out rfl | exact htw.out trivial], f1⟩
                    · obtain rfl : k = f.corners.length := by omega
                      have htw : Hid (twiceB f.corners = false) := List.any_eq_false.2 fun j hj => by have h := hno.out j (List.mem_range.1 hj); simp only [h]; decide
                      obtain ⟨y0, y1, y2, y3, y4, y5, y6⟩ := cells7 hbk.out
                      rw [hca.out] at y6
                      cases cv
                      all_goals
                        go_wp2_with (go_at_call 83; (with_reducible refine (c83.out _ hbw.out).mono ?_); rintro e w9 ⟨rfl, hb9⟩)
                        go_ret
                        exact ⟨by rw [hEh.out]; simp [h12, h3, htw.out], hbw.out.trans (hb9.mono hbw.out.size)⟩
end Go.Proofs.YthojfhdenfhjfaaDoor
end
section
namespace Go.Proofs.YthojfhdenfhjfaaDoor
open Go.RowKit Go.Lib Go.Shelf

abbrev oCells (o : Opn) : Array Value := #[.string o.name, .int .i64 o.face, .int .i64 o.low.x, .int .i64 o.low.y, .int .i64 o.high.x, .int .i64 o.high.y]
theorem RdOpns.take {w : World} {A : Option Addr} {l : List Opn} (h : RdOpns w A l) (i : Nat) : RdOpns w A (l.take i) :=
  ⟨⟨Nat.le_trans (by rw [List.length_take]; omega) h.1.1, fun j x hj => h.1.2 j x (by rw [List.getElem?_take] at hj; split at hj; exact hj; cases hj)⟩, fun f hf => h.2 f (List.mem_of_mem_take hf)⟩
/-- The roof's box and the opening's. -/
structure CoX (w : World) (v0 v1 : Value) (o : Opn) (W : World) : Prop where
  b : Below w.heap.size w W
  c0 : W.heap[w.heap.size]? = some (.cells #[v0, v1] 25 (0, 0))
  c1 : W.heap[w.heap.size + 1]? = some (.cells (oCells o) 58 (0, 0))
theorem CoX.make (w : World) (v0 v1 : Value) (o : Opn) : CoX w v0 v1 o ((w.alloc (.cells #[v0, v1] 25)).alloc (.cells (oCells o) 58)) :=
  ⟨((Below.refl _ w).alloc (Nat.le_refl _) _).alloc (by simp) _, heap_old _ _ _ _ (heap_new _ _ _ rfl), heap_new _ _ _ (by simp)⟩
theorem CoX.later {w W W' : World} {v0 v1 : Value} {o : Opn} (h : CoX w v0 v1 o W) (hb : Below W.heap.size W W') : CoX w v0 v1 o W' :=
  ⟨h.b.trans (hb.mono h.b.size), (hb.block _ (lt_block h.c0)).trans h.c0, (hb.block _ (lt_block h.c1)).trans h.c1⟩
theorem CoX.cells {w W : World} {v0 v1 : Value} {o : Opn} (h : CoX w v0 v1 o W) : (W.cell? ⟨w.heap.size, 0, none⟩ = some v0 ∧ W.cell? ⟨w.heap.size, 1, none⟩ = some v1) ∧
    W.cell? ⟨w.heap.size + 1, 0, none⟩ = some (.string o.name) ∧ W.cell? ⟨w.heap.size + 1, 1, none⟩ = some (.int .i64 o.face) ∧ W.cell? ⟨w.heap.size + 1, 2, none⟩ = some (.int .i64 o.low.x) ∧ W.cell? ⟨w.heap.size + 1, 3, none⟩ = some (.int .i64 o.low.y) ∧ W.cell? ⟨w.heap.size + 1, 4, none⟩ = some (.int .i64 o.high.x) ∧ W.cell? ⟨w.heap.size + 1, 5, none⟩ = some (.int .i64 o.high.y) :=
  ⟨cells2 h.c0, cells6 h.c1⟩
def badP (C : List Pnt) (p : Pnt) : Bool := !inPlan p || !decide (0 < liesI C p)
set_option maxHeartbeats 2000000 in
set_option maxRecDepth 100000 in
theorem checkOpen_any (fs : List Face) (fa : Option Addr) (fc : Nat) (l : List Opn) (A : Option Addr) (c : Nat) (i : Nat) (w : World) (hF : RdFaces w fa fs) (hA : RdOpns w A l) (hi : i < l.length) (hl : l.length ≤ 100000) (hc : l.length ≤ c) (hlf : fs.length ≤ 100000)
    (hg : ∀ f ∈ fs, (∀ q ∈ f.corners, SmP q 1000000) ∧ f.corners.length ≤ 100000) :
    Calls Tryd.prog 44 #[.agg #[.slice fa fs.length fc, .slice A l.length c], .int .i64 (i : Int)] w fun e w' => e = .returned (.int .i64 (openErr fs l i)) ∧ Below w.heap.size w w' := by
  obtain ⟨o, ho⟩ : ∃ o, o = l.getD i default := ⟨_, rfl⟩
  have hom : o ∈ l := by rw [ho]; exact getD_mem hi
  have hnm := hA.2 o hom
  obtain ⟨ad, hA', p0, p1, p2, p3, p4, p5⟩ := hA.at6 hi
  rw [← ho] at p0 p1 p2 p3 p4 p5
  have hE : openErr fs l i = (if nameB o.name = false then 5
    else if (l.take i).any (fun x => decide (x.name = o.name)) = true then 6
    else if inB o.face 0 ((fs.length : Int) - 1) = false then 7
    else if (decide (o.high.x ≤ o.low.x) || decide (o.high.y ≤ o.low.y)) = true then 1
    else if ((boxL o).any fun p => badP (fs.getD o.face.toNat default).corners p) = true then 9
    else if (l.take i).any (fun x => meetB x o) = true then 10 else 0) := by rw [ho]; rfl
  obtain ⟨nb, hnb⟩ : ∃ b, b = nameB o.name := ⟨_, rfl⟩
  obtain ⟨tb, htb⟩ : ∃ b, b = (l.take i).any (fun x => decide (x.name = o.name)) := ⟨_, rfl⟩
  obtain ⟨ib, hib⟩ : ∃ b, b = inB o.face 0 ((fs.length : Int) - 1) := ⟨_, rfl⟩
  obtain ⟨mb, hmb⟩ : ∃ b, b = (l.take i).any (fun x => meetB x o) := ⟨_, rfl⟩
  rw [← hnb, ← htb, ← hib, ← hmb] at hE
  have c77 : Hid (∀ W, Calls Tryd.prog 77 #[.string o.name] W fun e w' => e = .returned (.bool nb) ∧ Below W.heap.size W w') := fun W => by rw [hnb]; exact isName_any o.name W (by omega)
  have hli : (l.take i).length = i := by rw [List.length_take]; omega
  have c84a : Hid (∀ W, CoX w (.slice fa fs.length fc) (.slice A l.length c) o W → Calls Tryd.prog 84 #[.slice A i c, .func (.func 85) #[] #[.pointer (some ⟨w.heap.size + 1, 0, none⟩)]] W fun e w' => e = .returned (.bool tb) ∧ Below W.heap.size W w') := fun W hW => by
    have h := hasOpen_any A c (l.take i) W ((hA.take i).below hW.b) (by omega) 85 #[.pointer (some ⟨w.heap.size + 1, 0, none⟩)] (enters_of Tryd.func85 (by kernel_rfl) rfl) (fun x => decide (x.name = o.name)) (fun q _ W' hW' => open1_any q o (w.heap.size + 1) W' ((hW'.cell (lt_block hW.c1)).trans hW.cells.2.1))
    rw [hli, ← htb] at h
    exact h
  have c84b : Hid (∀ W, CoX w (.slice fa fs.length fc) (.slice A l.length c) o W → Calls Tryd.prog 84 #[.slice A i c, .func (.func 88) #[] #[.pointer (some ⟨w.heap.size + 1, 0, none⟩)]] W fun e w' => e = .returned (.bool mb) ∧ Below W.heap.size W w') := fun W hW => by
    have h := hasOpen_any A c (l.take i) W ((hA.take i).below hW.b) (by omega) 88 #[.pointer (some ⟨w.heap.size + 1, 0, none⟩)] (enters_of Tryd.func88 (by kernel_rfl) rfl) (fun x => meetB x o) (fun q _ W' hW' => open2_any q o (w.heap.size + 1) W' ((hW'.block _ (lt_block hW.c1)).trans hW.c1))
    rw [hli, ← hmb] at h
    exact h
  have c51 : Hid (∀ W, Calls Tryd.prog 51 #[.int .i64 o.face, .int .i64 0, .int .i64 ((fs.length : Int) - 1)] W fun e w' => e = .returned (.bool ib) ∧ W = w') := fun W => by rw [hib]; exact in_any _ _ _ W
  have hwl : IntKind.i64.wrap ((fs.length : Int) - 1) = (fs.length : Int) - 1 := IntWalk.i64_in _ (by omega)
  have hEh := Lib.hid hE
  clear hE
  have hX0 : Hid (CoX w (.slice fa fs.length fc) (.slice A l.length c) o ((w.alloc (.cells #[.slice fa fs.length fc, .slice A l.length c] 25)).alloc (.cells (oCells o) 58))) := CoX.make _ _ _ _
  have hic : i ≤ c := by omega
  replace ho := Lib.hid ho
  replace hnb := Lib.hid hnb
  replace htb := Lib.hid htb
  replace hib := Lib.hid hib
  replace hmb := Lib.hid hmb
  replace hli := Lib.hid hli
  subst hA'
  have p0' := p0
  have lb := World.block_lt_of_cell? _ _ p0
  have hq : Hid (∀ j, (w.alloc (.cells #[.slice fa fs.length fc, .slice (some ad) l.length c] 25)).cell? ⟨(ad.add (i * 6)).block, j, none⟩ = w.cell? ⟨(ad.add (i * 6)).block, j, none⟩) := fun j => ((Below.refl _ w).alloc (Nat.le_refl _) _).cell lb
  go_enter Tryd.func44, Tryd.ntmps44
  go_wp2_with fail
  obtain ⟨W1, hW1⟩ : ∃ W1, W1 = ((w.alloc (.cells #[.slice fa fs.length fc, .slice (some ad) l.length c] 25)).alloc (.cells (oCells o) 58)) := ⟨_, rfl⟩
  rw [← hW1] at hX0 ⊢
  replace hW1 := Lib.hid hW1
  cases nb with
  | false =>
    go_wp2_with (go_at_call 77; (with_reducible refine (c77.out _).mono ?_); rintro e w1 ⟨rfl, hb1⟩)
    go_ret
    exact ⟨by rw [hEh.out]; rfl, (hX0.out.later hb1).b⟩
  | true =>
    go_wp2_with (go_at_call 77; (with_reducible refine (c77.out _).mono ?_); rintro e w1 ⟨rfl, hb1⟩; have hX1 := Lib.hid (hX0.out.later hb1); obtain ⟨⟨z0, z1⟩, y0, y1, y2, y3, y4, y5⟩ := hX1.out.cells)
    cases tb with
    | true =>
      go_wp2_with (go_at_call 84; (with_reducible refine (c84a.out _ hX1.out).mono ?_); rintro e w2 ⟨rfl, hb2⟩)
      go_ret
      exact ⟨by rw [hEh.out]; rfl, (hX1.out.later hb2).b⟩
    | false =>
      go_wp2_with (go_at_call 84; (with_reducible refine (c84a.out _ hX1.out).mono ?_); rintro e w2 ⟨rfl, hb2⟩; clear z0 z1 y0 y1 y2 y3 y4 y5; have hX2 := Lib.hid (hX1.out.later hb2); obtain ⟨⟨z0, z1⟩, y0, y1, y2, y3, y4, y5⟩ := hX2.out.cells)
      cases ib with
      | false =>
        go_wp2_with (go_at_call 51; (with_reducible refine (c51.out _).mono ?_); rintro e w3 ⟨rfl, rfl⟩)
        go_ret
        exact ⟨by rw [hEh.out]; simp, hX2.out.b⟩
      | true =>
        have hin := hib.out.symm
        unfold inB at hin
        simp only [Bool.and_eq_true, decide_eq_true_eq] at hin
        obtain ⟨fi, hfi⟩ : ∃ fi : Nat, o.face = (fi : Int) := ⟨o.face.toNat, by omega⟩
        have hfl : fi < fs.length := by omega
        replace hin := Lib.hid hin
        by_cases hx : o.high.x ≤ o.low.x
        · have hx' : o.low.x ≥ o.high.x := hx
          replace hfi := Lib.hid hfi
          go_wp2_with (go_at_call 51; (with_reducible refine (c51.out _).mono ?_); rintro e w3 ⟨rfl, rfl⟩)
          go_ret
          exact ⟨by rw [hEh.out]; simp [hx], hX2.out.b⟩
        have hx' : ¬ o.low.x ≥ o.high.x := hx
        by_cases hy : o.high.y ≤ o.low.y
        · have hy' : o.low.y ≥ o.high.y := hy
          replace hfi := Lib.hid hfi
          go_wp2_with (go_at_call 51; (with_reducible refine (c51.out _).mono ?_); rintro e w3 ⟨rfl, rfl⟩)
          go_ret
          exact ⟨by rw [hEh.out]; simp [hy], hX2.out.b⟩
        have hy' : ¬ o.low.y ≥ o.high.y := hy
        obtain ⟨adf, hfa, _⟩ := hF.at7 hfl
        subst hfa
        obtain ⟨f, hf⟩ : ∃ f, f = fs.getD fi default := ⟨_, rfl⟩
        have hfC : Hid (fs.getD o.face.toNat default = f) := by unfold Hid; rw [hf, hfi]; rfl
        have hfm : f ∈ fs := by rw [hf]; exact getD_mem hfl
        have hP := (hF.2 f hfm).1
        obtain ⟨hsm, hfl2⟩ := hg f hfm
        replace hsm := Lib.hid hsm
        replace hfi := Lib.hid hfi
        replace hf := Lib.hid hf
        go_wp2_with (first | (go_at_call 51; (with_reducible refine (c51.out _).mono ?_); rintro e w3 ⟨rfl, rfl⟩) | (go_at_call 86; (with_reducible refine (box_any o _).mono ?_); rintro e w4 ⟨rfl, hbx, hb4⟩; clear z0 z1 y0 y1 y2 y3 y4 y5; have hX4 := Lib.hid (hX2.out.later hb4)))
        go_loopw [54] (fun i wr => ∃ k : Nat, i = .int .i64 k ∧ k ≤ 4 ∧ Hid (∀ j, j < k → badP f.corners ((boxL o).getD j default) = false) ∧ Hid (CoX w (.slice (some adf) fs.length fc) (.slice (some ad) l.length c) o wr) ∧ Hid (Below w4.heap.size w4 wr)) (fun i _ => 4 - (intOf i).toNat)
        case atStart => exact ⟨0, rfl, Nat.zero_le _, fun j hj => absurd hj (Nat.not_lt_zero _), hX4.out, Below.refl _ _⟩
        case round =>
          obtain ⟨k, rfl, hk, hno, hXw, hbw⟩ := hrel
          by_cases hlt : k < 4
          · have hlb : k < (boxL o).length := hlt
            obtain ⟨ad3, hA3, q0, q1⟩ := (RdPnts.below hbx hbw.out).at2 hlb
            cases hA3
            rw [lit_add] at q0 q1
            dsimp only at q1
            obtain ⟨p, hp⟩ : ∃ p, p = (boxL o).getD k default := ⟨_, rfl⟩
            have hpm : Hid (p ∈ boxL o) := by rw [hp]; exact getD_mem hlb
            rw [← hp] at q0 q1
            obtain ⟨pl, hpl⟩ : ∃ b, b = inPlan p := ⟨_, rfl⟩
            obtain ⟨li, hli2⟩ : ∃ b, b = liesI f.corners p := ⟨_, rfl⟩
            have hbad : Hid (badP f.corners p = (!pl || !decide (0 < li))) := by unfold badP Hid; rw [hpl, hli2]
            have hnx : Hid (badP f.corners p = false → ∀ j, j < k + 1 → badP f.corners ((boxL o).getD j default) = false) := fun e j hj => by
              rcases Nat.lt_or_ge j k with h1 | h1
              · exact hno.out j h1
              · obtain rfl : j = k := by omega
                rw [← hp]; exact e
            have hany : Hid (badP f.corners p = true → ((boxL o).any fun q => badP f.corners q) = true) := fun e => List.any_eq_true.2 ⟨p, hpm.out, e⟩
            have c52 : Hid (∀ W, Calls Tryd.prog 52 #[pntVal p] W fun e w' => e = .returned (.bool pl) ∧ Below W.heap.size W w') := fun W => by rw [hpl]; exact planned_any p W
            obtain ⟨wa, hwa⟩ : ∃ x, x = wr.alloc (.cells #[.int .i64 p.x, .int .i64 p.y] 39) := ⟨_, rfl⟩
            have hba : Hid (Below wr.heap.size wr wa) := by rw [hwa]; exact (Below.refl _ _).alloc (Nat.le_refl _) _
            have hwc : Hid (wa.heap[wr.heap.size]? = some (.cells #[.int .i64 p.x, .int .i64 p.y] 39 (0, 0))) := by rw [hwa]; exact heap_new _ _ _ rfl
            have hXa := Lib.hid (hXw.out.later hba.out)
            have c60 : Hid (pl = true → ∀ W, Below wa.heap.size wa W → Calls Tryd.prog 60 #[.slice f.ca f.corners.length f.cc, pntVal p] W fun e w' => e = .returned (.int .i64 li) ∧ Below W.heap.size W w') := fun e W hW => by
              rw [hli2]
              exact lies_any f.ca f.cc f.corners p W (hP.below (hXa.out.later hW).b) (by omega) hsm.out (inPlan_small (hpl ▸ e))
            have hcl : Hid (∀ W', Below wa.heap.size wa W' → W'.cell? ⟨w.heap.size, 0, none⟩ = some (.slice (some adf) fs.length fc) ∧ W'.cell? ⟨w.heap.size + 1, 1, none⟩ = some (.int .i64 (fi : Int)) ∧ (W'.cell? ⟨wr.heap.size, 0, none⟩ = some (.int .i64 p.x) ∧ W'.cell? ⟨wr.heap.size, 1, none⟩ = some (.int .i64 p.y)) ∧ W'.cell? ⟨(adf.add (fi * 7)).block, (adf.add (fi * 7)).off + 6, none⟩ = some (.slice f.ca f.corners.length f.cc)) := fun W' h => by
              have hX := hXa.out.later h
              obtain ⟨⟨a0, a1⟩, _, b1, _⟩ := hX.cells
              obtain ⟨adf', e', _, _, _, _, _, _, r6⟩ := (hF.below hX.b).at7 hfl
              cases e'
              rw [hfi.out] at b1
              rw [← hf.out] at r6
              exact ⟨a0, b1, cells2 ((h.block _ (lt_block hwc.out)).trans hwc.out), r6⟩
            have hfin : Hid (∀ W', Below wa.heap.size wa W' → CoX w (.slice (some adf) fs.length fc) (.slice (some ad) l.length c) o W' ∧ Below w4.heap.size w4 W') := fun W' h => ⟨hXa.out.later h, hbw.out.trans ((hba.out.trans (h.mono hba.out.size)).mono hbw.out.size)⟩
            have hwk : IntKind.i64.wrap ((k : Int) + 1) = (k : Int) + 1 := IntWalk.i64_in _ (by omega)
            replace hp := Lib.hid hp
            replace hpl := Lib.hid hpl
            replace hli2 := Lib.hid hli2
            clear p0' p0 p1 p2 p3 p4 p5
            go_wp2
            rw [← hwa]
            replace hwa := Lib.hid hwa
            have hSd : Below wa.heap.size wa wa.drew := (Below.refl _ _).drew
            cases pl
            · refine wp_region_tree (fun W' => Below wa.heap.size wa W') (.read 0 (.one 1 (.pure 2 (.pure 3 (.pure 4 (.read 5 (.pure 6 (.read 7 (.pure 8 (.pure 9 (.read 10 (.read 11 (.one 12 (.one 13 (.pure 14 (.pure 15 .done)))))))))))))))) [] (by kernel_rfl) (by kernel_rfl) hSd ?_
              refine wpTree_take (v := ?_) rfl (by rfl) ?_ (fun _ _ _ h => h) ?_
              rotate_left
              focus (intro w' hSw; obtain ⟨x0, x1, ⟨x2, x3⟩, x4⟩ := hcl.out _ hSw; clear hSw; (try simp only [List.getElem_toArray, List.getElem_cons_zero, List.getElem_cons_succ]); go_simp; try with_reducible rfl)
              (try simp only [List.getElem_toArray, List.getElem_cons_zero, List.getElem_cons_succ, Act.put, List.setIfInBounds_toArray, List.set_cons_zero, List.set_cons_succ])
              refine wpTree_do rfl (by rfl) ?_
              (try simp only [List.getElem_toArray, List.getElem_cons_zero, List.getElem_cons_succ])
              go_simp
              go_at_call 52
              (with_reducible refine (c52.out _).mono ?_)
              rintro e wc ⟨rfl, hbc⟩
              have hSc := hSd.trans (hbc.mono hSd.size)
              refine ⟨by intros; first | exact hSc | simpa using hSc, ?_⟩
              (try simp only [List.getElem_toArray, List.getElem_cons_zero, List.getElem_cons_succ, Act.put, List.setIfInBounds_toArray, List.set_cons_zero, List.set_cons_succ])
              refine wpTree_pure (v := ?_) rfl (by rfl) ?_ (fun _ _ _ h => h) ?_
              rotate_left
              focus (intro w'; (try simp only [List.getElem_toArray, List.getElem_cons_zero, List.getElem_cons_succ]); go_simp; try with_reducible rfl)
              (try simp only [List.getElem_toArray, List.getElem_cons_zero, List.getElem_cons_succ, Act.put, List.setIfInBounds_toArray, List.set_cons_zero, List.set_cons_succ])
              refine wpTree_pure (v := ?_) rfl (by rfl) ?_ (fun _ _ _ h => h) ?_
              rotate_left
              focus (intro w'; (try simp only [List.getElem_toArray, List.getElem_cons_zero, List.getElem_cons_succ]); go_simp; try with_reducible rfl)
              (try simp only [List.getElem_toArray, List.getElem_cons_zero, List.getElem_cons_succ, Act.put, List.setIfInBounds_toArray, List.set_cons_zero, List.set_cons_succ])
              refine wpTree_bar rfl (by rfl) (fun _ _ _ h => h) ?_
              (try simp only [List.getElem_toArray, List.getElem_cons_zero, List.getElem_cons_succ, Act.put, List.setIfInBounds_toArray, List.set_cons_zero, List.set_cons_succ])
              refine wpTree_barR rfl (by rfl) (fun _ _ _ h => h) ?_
              (try simp only [List.getElem_toArray, List.getElem_cons_zero, List.getElem_cons_succ, Act.put, List.setIfInBounds_toArray, List.set_cons_zero, List.set_cons_succ])
              refine wpTree_bar rfl (by rfl) (fun _ _ _ h => h) ?_
              (try simp only [List.getElem_toArray, List.getElem_cons_zero, List.getElem_cons_succ, Act.put, List.setIfInBounds_toArray, List.set_cons_zero, List.set_cons_succ])
              refine wpTree_barR rfl (by rfl) (fun _ _ _ h => h) ?_
              (try simp only [List.getElem_toArray, List.getElem_cons_zero, List.getElem_cons_succ, Act.put, List.setIfInBounds_toArray, List.set_cons_zero, List.set_cons_succ])
              refine wpTree_bar rfl (by rfl) (fun _ _ _ h => h) ?_
              (try simp only [List.getElem_toArray, List.getElem_cons_zero, List.getElem_cons_succ, Act.put, List.setIfInBounds_toArray, List.set_cons_zero, List.set_cons_succ])
              refine wpTree_bar rfl (by rfl) (fun _ _ _ h => h) ?_
              (try simp only [List.getElem_toArray, List.getElem_cons_zero, List.getElem_cons_succ, Act.put, List.setIfInBounds_toArray, List.set_cons_zero, List.set_cons_succ])
              refine wpTree_barR rfl (by rfl) (fun _ _ _ h => h) ?_
              (try simp only [List.getElem_toArray, List.getElem_cons_zero, List.getElem_cons_succ, Act.put, List.setIfInBounds_toArray, List.set_cons_zero, List.set_cons_succ])
              refine wpTree_barR rfl (by rfl) (fun _ _ _ h => h) ?_
              (try simp only [List.getElem_toArray, List.getElem_cons_zero, List.getElem_cons_succ, Act.put, List.setIfInBounds_toArray, List.set_cons_zero, List.set_cons_succ])
              refine wpTree_bar1 rfl (by rfl) ?_
              (try simp only [List.getElem_toArray, List.getElem_cons_zero, List.getElem_cons_succ, Act.put, List.setIfInBounds_toArray, List.set_cons_zero, List.set_cons_succ])
              refine wpTree_bar1 rfl (by rfl) ?_
              (try simp only [List.getElem_toArray, List.getElem_cons_zero, List.getElem_cons_succ, Act.put, List.setIfInBounds_toArray, List.set_cons_zero, List.set_cons_succ])
              refine wpTree_bar rfl (by rfl) (fun _ _ _ h => h) ?_
              (try simp only [List.getElem_toArray, List.getElem_cons_zero, List.getElem_cons_succ, Act.put, List.setIfInBounds_toArray, List.set_cons_zero, List.set_cons_succ])
              refine wpTree_pure (v := ?_) rfl (by rfl) ?_ (fun _ _ _ h => h) ?_
              rotate_left
              focus (intro w'; (try simp only [List.getElem_toArray, List.getElem_cons_zero, List.getElem_cons_succ]); go_simp; try with_reducible rfl)
              (try simp only [List.getElem_toArray, List.getElem_cons_zero, List.getElem_cons_succ, Act.put, List.setIfInBounds_toArray, List.set_cons_zero, List.set_cons_succ])
              (try unfold wpTree)
              obtain ⟨f1, f2⟩ := hfin.out _ hSc
              go_wp2
              go_ret
              exact ⟨by rw [hEh.out, hfC.out]; simp [hx, hy, hany.out (by rw [hbad.out]; rfl)], f1.b⟩
            · obtain ⟨ub, hub⟩ : ∃ b, b = decide (0 < li) := ⟨_, rfl⟩
              rw [← hub] at hbad
              have c87 : Hid (∀ W, Calls Tryd.prog 87 #[.int .i64 li] W fun e w' => e = .returned (.bool ub) ∧ W = w') := fun W => by rw [hub]; exact up_any li W
              replace hub := Lib.hid hub
              cases ub
              · refine wp_region_tree (fun W' => Below wa.heap.size wa W') (.read 0 (.one 1 (.pure 2 (.pure 3 (.pure 4 (.read 5 (.pure 6 (.read 7 (.pure 8 (.pure 9 (.read 10 (.read 11 (.one 12 (.one 13 (.pure 14 (.pure 15 .done)))))))))))))))) [] (by kernel_rfl) (by kernel_rfl) hSd ?_
                refine wpTree_take (v := ?_) rfl (by rfl) ?_ (fun _ _ _ h => h) ?_
                rotate_left
                focus (intro w' hSw; obtain ⟨x0, x1, ⟨x2, x3⟩, x4⟩ := hcl.out _ hSw; clear hSw; (try simp only [List.getElem_toArray, List.getElem_cons_zero, List.getElem_cons_succ]); go_simp; try with_reducible rfl)
                (try simp only [List.getElem_toArray, List.getElem_cons_zero, List.getElem_cons_succ, Act.put, List.setIfInBounds_toArray, List.set_cons_zero, List.set_cons_succ])
                refine wpTree_do rfl (by rfl) ?_
                (try simp only [List.getElem_toArray, List.getElem_cons_zero, List.getElem_cons_succ])
                go_simp
                go_at_call 52
                (with_reducible refine (c52.out _).mono ?_)
                rintro e wc ⟨rfl, hbc⟩
                have hSc := hSd.trans (hbc.mono hSd.size)
                refine ⟨by intros; first | exact hSc | simpa using hSc, ?_⟩
                (try simp only [List.getElem_toArray, List.getElem_cons_zero, List.getElem_cons_succ, Act.put, List.setIfInBounds_toArray, List.set_cons_zero, List.set_cons_succ])
                refine wpTree_pure (v := ?_) rfl (by rfl) ?_ (fun _ _ _ h => h) ?_
                rotate_left
                focus (intro w'; (try simp only [List.getElem_toArray, List.getElem_cons_zero, List.getElem_cons_succ]); go_simp; try with_reducible rfl)
                (try simp only [List.getElem_toArray, List.getElem_cons_zero, List.getElem_cons_succ, Act.put, List.setIfInBounds_toArray, List.set_cons_zero, List.set_cons_succ])
                refine wpTree_pure (v := ?_) rfl (by rfl) ?_ (fun _ _ _ h => h) ?_
                rotate_left
                focus (intro w'; (try simp only [List.getElem_toArray, List.getElem_cons_zero, List.getElem_cons_succ]); go_simp; try with_reducible rfl)
                (try simp only [List.getElem_toArray, List.getElem_cons_zero, List.getElem_cons_succ, Act.put, List.setIfInBounds_toArray, List.set_cons_zero, List.set_cons_succ])
                refine wpTree_pure (v := ?_) rfl (by rfl) ?_ (fun _ _ _ h => h) ?_
                rotate_left
                focus (intro w'; (try simp only [List.getElem_toArray, List.getElem_cons_zero, List.getElem_cons_succ]); go_simp; try with_reducible rfl)
                (try simp only [List.getElem_toArray, List.getElem_cons_zero, List.getElem_cons_succ, Act.put, List.setIfInBounds_toArray, List.set_cons_zero, List.set_cons_succ])
                refine wpTree_take (v := ?_) rfl (by rfl) ?_ (fun _ _ _ h => h) ?_
                rotate_left
                focus (intro w' hSw; obtain ⟨x0, x1, ⟨x2, x3⟩, x4⟩ := hcl.out _ hSw; clear hSw; (try simp only [List.getElem_toArray, List.getElem_cons_zero, List.getElem_cons_succ]); go_simp; try with_reducible rfl)
                (try simp only [List.getElem_toArray, List.getElem_cons_zero, List.getElem_cons_succ, Act.put, List.setIfInBounds_toArray, List.set_cons_zero, List.set_cons_succ])
                refine wpTree_pure (v := ?_) rfl (by rfl) ?_ (fun _ _ _ h => h) ?_
                rotate_left
                focus (intro w'; (try simp only [List.getElem_toArray, List.getElem_cons_zero, List.getElem_cons_succ]); go_simp; try with_reducible rfl)
                (try simp only [List.getElem_toArray, List.getElem_cons_zero, List.getElem_cons_succ, Act.put, List.setIfInBounds_toArray, List.set_cons_zero, List.set_cons_succ])
                refine wpTree_take (v := ?_) rfl (by rfl) ?_ (fun _ _ _ h => h) ?_
                rotate_left
                focus (intro w' hSw; obtain ⟨x0, x1, ⟨x2, x3⟩, x4⟩ := hcl.out _ hSw; clear hSw; (try simp only [List.getElem_toArray, List.getElem_cons_zero, List.getElem_cons_succ]); go_simp; try with_reducible rfl)
                (try simp only [List.getElem_toArray, List.getElem_cons_zero, List.getElem_cons_succ, Act.put, List.setIfInBounds_toArray, List.set_cons_zero, List.set_cons_succ])
                refine wpTree_pure (v := ?_) rfl (by rfl) ?_ (fun _ _ _ h => h) ?_
                rotate_left
                focus (intro w'; (try simp only [List.getElem_toArray, List.getElem_cons_zero, List.getElem_cons_succ]); go_simp; try with_reducible rfl)
                (try simp only [List.getElem_toArray, List.getElem_cons_zero, List.getElem_cons_succ, Act.put, List.setIfInBounds_toArray, List.set_cons_zero, List.set_cons_succ])
                refine wpTree_pure (v := ?_) rfl (by rfl) ?_ (fun _ _ _ h => h) ?_
                rotate_left
                focus (intro w'; (try simp only [List.getElem_toArray, List.getElem_cons_zero, List.getElem_cons_succ]); go_simp; try with_reducible rfl)
                (try simp only [List.getElem_toArray, List.getElem_cons_zero, List.getElem_cons_succ, Act.put, List.setIfInBounds_toArray, List.set_cons_zero, List.set_cons_succ])
                refine wpTree_take (v := ?_) rfl (by rfl) ?_ (fun _ _ _ h => h) ?_
                rotate_left
                focus (intro w' hSw; obtain ⟨x0, x1, ⟨x2, x3⟩, x4⟩ := hcl.out _ hSw; clear hSw; (try simp only [List.getElem_toArray, List.getElem_cons_zero, List.getElem_cons_succ]); go_simp; try with_reducible rfl)
                (try simp only [List.getElem_toArray, List.getElem_cons_zero, List.getElem_cons_succ, Act.put, List.setIfInBounds_toArray, List.set_cons_zero, List.set_cons_succ])
                refine wpTree_take (v := ?_) rfl (by rfl) ?_ (fun _ _ _ h => h) ?_
                rotate_left
                focus (intro w' hSw; obtain ⟨x0, x1, ⟨x2, x3⟩, x4⟩ := hcl.out _ hSw; clear hSw; (try simp only [List.getElem_toArray, List.getElem_cons_zero, List.getElem_cons_succ]); go_simp; try with_reducible rfl)
                (try simp only [List.getElem_toArray, List.getElem_cons_zero, List.getElem_cons_succ, Act.put, List.setIfInBounds_toArray, List.set_cons_zero, List.set_cons_succ])
                refine wpTree_do rfl (by rfl) ?_
                (try simp only [List.getElem_toArray, List.getElem_cons_zero, List.getElem_cons_succ])
                go_simp
                go_at_call 60
                (with_reducible refine (c60.out rfl _ hSc).mono ?_)
                rintro e we ⟨rfl, hbe⟩
                have hSe := hSc.trans (hbe.mono hSc.size)
                refine ⟨by intros; first | exact hSe | simpa using hSe, ?_⟩
                (try simp only [List.getElem_toArray, List.getElem_cons_zero, List.getElem_cons_succ, Act.put, List.setIfInBounds_toArray, List.set_cons_zero, List.set_cons_succ])
                refine wpTree_do rfl (by rfl) ?_
                (try simp only [List.getElem_toArray, List.getElem_cons_zero, List.getElem_cons_succ])
                go_simp
                go_at_call 87
                (with_reducible refine (c87.out _).mono ?_)
                rintro e wf ⟨rfl, rfl⟩
                skip
                refine ⟨by intros; first | exact hSe | simpa using hSe, ?_⟩
                (try simp only [List.getElem_toArray, List.getElem_cons_zero, List.getElem_cons_succ, Act.put, List.setIfInBounds_toArray, List.set_cons_zero, List.set_cons_succ])
                refine wpTree_pure (v := ?_) rfl (by rfl) ?_ (fun _ _ _ h => h) ?_
                rotate_left
                focus (intro w'; (try simp only [List.getElem_toArray, List.getElem_cons_zero, List.getElem_cons_succ]); go_simp; try with_reducible rfl)
                (try simp only [List.getElem_toArray, List.getElem_cons_zero, List.getElem_cons_succ, Act.put, List.setIfInBounds_toArray, List.set_cons_zero, List.set_cons_succ])
                refine wpTree_pure (v := ?_) rfl (by rfl) ?_ (fun _ _ _ h => h) ?_
                rotate_left
                focus (intro w'; (try simp only [List.getElem_toArray, List.getElem_cons_zero, List.getElem_cons_succ]); go_simp; try with_reducible rfl)
                (try simp only [List.getElem_toArray, List.getElem_cons_zero, List.getElem_cons_succ, Act.put, List.setIfInBounds_toArray, List.set_cons_zero, List.set_cons_succ])
                (try unfold wpTree)
                obtain ⟨f1, f2⟩ := hfin.out _ hSe
                go_wp2
                go_ret
                exact ⟨by rw [hEh.out, hfC.out]; simp [hx, hy, hany.out (by rw [hbad.out]; rfl)], f1.b⟩
              · refine wp_region_tree (fun W' => Below wa.heap.size wa W') (.read 0 (.one 1 (.pure 2 (.pure 3 (.pure 4 (.read 5 (.pure 6 (.read 7 (.pure 8 (.pure 9 (.read 10 (.read 11 (.one 12 (.one 13 (.pure 14 (.pure 15 .done)))))))))))))))) [] (by kernel_rfl) (by kernel_rfl) hSd ?_
                refine wpTree_take (v := ?_) rfl (by rfl) ?_ (fun _ _ _ h => h) ?_
                rotate_left
                focus (intro w' hSw; obtain ⟨x0, x1, ⟨x2, x3⟩, x4⟩ := hcl.out _ hSw; clear hSw; (try simp only [List.getElem_toArray, List.getElem_cons_zero, List.getElem_cons_succ]); go_simp; try with_reducible rfl)
                (try simp only [List.getElem_toArray, List.getElem_cons_zero, List.getElem_cons_succ, Act.put, List.setIfInBounds_toArray, List.set_cons_zero, List.set_cons_succ])
                refine wpTree_do rfl (by rfl) ?_
                (try simp only [List.getElem_toArray, List.getElem_cons_zero, List.getElem_cons_succ])
                go_simp
                go_at_call 52
                (with_reducible refine (c52.out _).mono ?_)
                rintro e wc ⟨rfl, hbc⟩
                have hSc := hSd.trans (hbc.mono hSd.size)
                refine ⟨by intros; first | exact hSc | simpa using hSc, ?_⟩
                (try simp only [List.getElem_toArray, List.getElem_cons_zero, List.getElem_cons_succ, Act.put, List.setIfInBounds_toArray, List.set_cons_zero, List.set_cons_succ])
                refine wpTree_pure (v := ?_) rfl (by rfl) ?_ (fun _ _ _ h => h) ?_
                rotate_left
                focus (intro w'; (try simp only [List.getElem_toArray, List.getElem_cons_zero, List.getElem_cons_succ]); go_simp; try with_reducible rfl)
                (try simp only [List.getElem_toArray, List.getElem_cons_zero, List.getElem_cons_succ, Act.put, List.setIfInBounds_toArray, List.set_cons_zero, List.set_cons_succ])
                refine wpTree_pure (v := ?_) rfl (by rfl) ?_ (fun _ _ _ h => h) ?_
                rotate_left
                focus (intro w'; (try simp only [List.getElem_toArray, List.getElem_cons_zero, List.getElem_cons_succ]); go_simp; try with_reducible rfl)
                (try simp only [List.getElem_toArray, List.getElem_cons_zero, List.getElem_cons_succ, Act.put, List.setIfInBounds_toArray, List.set_cons_zero, List.set_cons_succ])
                refine wpTree_pure (v := ?_) rfl (by rfl) ?_ (fun _ _ _ h => h) ?_
                rotate_left
                focus (intro w'; (try simp only [List.getElem_toArray, List.getElem_cons_zero, List.getElem_cons_succ]); go_simp; try with_reducible rfl)
                (try simp only [List.getElem_toArray, List.getElem_cons_zero, List.getElem_cons_succ, Act.put, List.setIfInBounds_toArray, List.set_cons_zero, List.set_cons_succ])
                refine wpTree_take (v := ?_) rfl (by rfl) ?_ (fun _ _ _ h => h) ?_
                rotate_left
                focus (intro w' hSw; obtain ⟨x0, x1, ⟨x2, x3⟩, x4⟩ := hcl.out _ hSw; clear hSw; (try simp only [List.getElem_toArray, List.getElem_cons_zero, List.getElem_cons_succ]); go_simp; try with_reducible rfl)
                (try simp only [List.getElem_toArray, List.getElem_cons_zero, List.getElem_cons_succ, Act.put, List.setIfInBounds_toArray, List.set_cons_zero, List.set_cons_succ])
                refine wpTree_pure (v := ?_) rfl (by rfl) ?_ (fun _ _ _ h => h) ?_
                rotate_left
                focus (intro w'; (try simp only [List.getElem_toArray, List.getElem_cons_zero, List.getElem_cons_succ]); go_simp; try with_reducible rfl)
                (try simp only [List.getElem_toArray, List.getElem_cons_zero, List.getElem_cons_succ, Act.put, List.setIfInBounds_toArray, List.set_cons_zero, List.set_cons_succ])
                refine wpTree_take (v := ?_) rfl (by rfl) ?_ (fun _ _ _ h => h) ?_
                rotate_left
                focus (intro w' hSw; obtain ⟨x0, x1, ⟨x2, x3⟩, x4⟩ := hcl.out _ hSw; clear hSw; (try simp only [List.getElem_toArray, List.getElem_cons_zero, List.getElem_cons_succ]); go_simp; try with_reducible rfl)
                (try simp only [List.getElem_toArray, List.getElem_cons_zero, List.getElem_cons_succ, Act.put, List.setIfInBounds_toArray, List.set_cons_zero, List.set_cons_succ])
                refine wpTree_pure (v := ?_) rfl (by rfl) ?_ (fun _ _ _ h => h) ?_
                rotate_left
                focus (intro w'; (try simp only [List.getElem_toArray, List.getElem_cons_zero, List.getElem_cons_succ]); go_simp; try with_reducible rfl)
                (try simp only [List.getElem_toArray, List.getElem_cons_zero, List.getElem_cons_succ, Act.put, List.setIfInBounds_toArray, List.set_cons_zero, List.set_cons_succ])
                refine wpTree_pure (v := ?_) rfl (by rfl) ?_ (fun _ _ _ h => h) ?_
                rotate_left
                focus (intro w'; (try simp only [List.getElem_toArray, List.getElem_cons_zero, List.getElem_cons_succ]); go_simp; try with_reducible rfl)
                (try simp only [List.getElem_toArray, List.getElem_cons_zero, List.getElem_cons_succ, Act.put, List.setIfInBounds_toArray, List.set_cons_zero, List.set_cons_succ])
                refine wpTree_take (v := ?_) rfl (by rfl) ?_ (fun _ _ _ h => h) ?_
                rotate_left
                focus (intro w' hSw; obtain ⟨x0, x1, ⟨x2, x3⟩, x4⟩ := hcl.out _ hSw; clear hSw; (try simp only [List.getElem_toArray, List.getElem_cons_zero, List.getElem_cons_succ]); go_simp; try with_reducible rfl)
                (try simp only [List.getElem_toArray, List.getElem_cons_zero, List.getElem_cons_succ, Act.put, List.setIfInBounds_toArray, List.set_cons_zero, List.set_cons_succ])
                refine wpTree_take (v := ?_) rfl (by rfl) ?_ (fun _ _ _ h => h) ?_
                rotate_left
                focus (intro w' hSw; obtain ⟨x0, x1, ⟨x2, x3⟩, x4⟩ := hcl.out _ hSw; clear hSw; (try simp only [List.getElem_toArray, List.getElem_cons_zero, List.getElem_cons_succ]); go_simp; try with_reducible rfl)
                (try simp only [List.getElem_toArray, List.getElem_cons_zero, List.getElem_cons_succ, Act.put, List.setIfInBounds_toArray, List.set_cons_zero, List.set_cons_succ])
                refine wpTree_do rfl (by rfl) ?_
                (try simp only [List.getElem_toArray, List.getElem_cons_zero, List.getElem_cons_succ])
                go_simp
                go_at_call 60
                (with_reducible refine (c60.out rfl _ hSc).mono ?_)
                rintro e we ⟨rfl, hbe⟩
                have hSe := hSc.trans (hbe.mono hSc.size)
                refine ⟨by intros; first | exact hSe | simpa using hSe, ?_⟩
                (try simp only [List.getElem_toArray, List.getElem_cons_zero, List.getElem_cons_succ, Act.put, List.setIfInBounds_toArray, List.set_cons_zero, List.set_cons_succ])
                refine wpTree_do rfl (by rfl) ?_
                (try simp only [List.getElem_toArray, List.getElem_cons_zero, List.getElem_cons_succ])
                go_simp
                go_at_call 87
                (with_reducible refine (c87.out _).mono ?_)
                rintro e wf ⟨rfl, rfl⟩
                skip
                refine ⟨by intros; first | exact hSe | simpa using hSe, ?_⟩
                (try simp only [List.getElem_toArray, List.getElem_cons_zero, List.getElem_cons_succ, Act.put, List.setIfInBounds_toArray, List.set_cons_zero, List.set_cons_succ])
                refine wpTree_pure (v := ?_) rfl (by rfl) ?_ (fun _ _ _ h => h) ?_
                rotate_left
                focus (intro w'; (try simp only [List.getElem_toArray, List.getElem_cons_zero, List.getElem_cons_succ]); go_simp; try with_reducible rfl)
                (try simp only [List.getElem_toArray, List.getElem_cons_zero, List.getElem_cons_succ, Act.put, List.setIfInBounds_toArray, List.set_cons_zero, List.set_cons_succ])
                refine wpTree_pure (v := ?_) rfl (by rfl) ?_ (fun _ _ _ h => h) ?_
                rotate_left
                focus (intro w'; (try simp only [List.getElem_toArray, List.getElem_cons_zero, List.getElem_cons_succ]); go_simp; try with_reducible rfl)
                (try simp only [List.getElem_toArray, List.getElem_cons_zero, List.getElem_cons_succ, Act.put, List.setIfInBounds_toArray, List.set_cons_zero, List.set_cons_succ])
                (try unfold wpTree)
                obtain ⟨f1, f2⟩ := hfin.out _ hSe
                go_wp2
                exact ⟨⟨k + 1, by go_num, by omega, hnx.out (by rw [hbad.out]; rfl), f1, f2⟩, by simp only [intOf]; omega⟩
          · obtain rfl : k = 4 := by omega
            have hn : Hid (((boxL o).any fun q => badP f.corners q) = false) := List.any_eq_false.2 fun q hq => by
              obtain ⟨j, hj, e⟩ := nth_of hq
              rw [← e, hno.out j hj]
              decide
            obtain ⟨⟨z0, z1⟩, y0, y1, y2, y3, y4, y5⟩ := hXw.out.cells
            cases mb
            all_goals
              go_wp2_with (go_at_call 84; (with_reducible refine (c84b.out _ hXw.out).mono ?_); rintro e w9 ⟨rfl, hb9⟩)
              go_ret
              exact ⟨by rw [hEh.out, hfC.out]; simp [hx, hy, hn.out], (hXw.out.later hb9).b⟩
end Go.Proofs.YthojfhdenfhjfaaDoor
end
