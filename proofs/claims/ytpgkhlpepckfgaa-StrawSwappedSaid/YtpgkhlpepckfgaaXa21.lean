/-
  Parts copied, and parts put behind others: slices.Clone at parts, straw.behind: walked. A heap taken out of a row of heaps: slices.Delete, walked. Stores into a store of the call's own; a heap's parts are left, or it goes: keep, walked.
-/
import Derived.Test.YtpgkhlpepckfgaaXa18
import Derived.BigQuiet
import Derived.BigRegion
import Derived.Deep.AppendLies
import Derived.Deep.QuietTactic
import Derived.Deep.RegionLaw
import Derived.Lib.SliceRun
set_option linter.all false
set_option linter.unusedVariables false
set_option linter.unusedSimpArgs false
section
namespace Go.Proofs.Ytpgkhlpepckfgaa
open Go.RowKit Go.Lib

theorem rdparts_news {w : World} {ad : Addr} {l : List Portion} (h : RdParts w (some ad) l) : ∀ j u, (l.flatMap encPortion)[j]? = some u → w.cell? (ad.add j) = some u := fun j u hu => by
  have hlen := flat_len (sz := 2) (enc := encPortion) (fun _ => rfl) l
  have hj := (List.getElem?_eq_some_iff.1 hu).1
  rw [hlen] at hj
  have hi : j / 2 < l.length := by omega
  obtain ⟨ad', e, hc⟩ := h.2 (j / 2) l[j / 2] (by simp [hi])
  cases e
  have hr : j % 2 < 2 := Nat.mod_lt _ (by decide)
  have hv : ∃ v, (encPortion l[j / 2])[j % 2]? = some v := by
    rcases Nat.lt_succ_iff_lt_or_eq.1 hr with h1 | h1
    · have : j % 2 = 0 := by omega
      rw [this]; exact ⟨_, rfl⟩
    · rw [h1]; exact ⟨_, rfl⟩
  obtain ⟨v, hv⟩ := hv
  have h1 := flat_get (sz := 2) (enc := encPortion) (fun _ => rfl) l (j / 2) _ (j % 2) v (by simp [hi]) hv
  have e2 : j / 2 * 2 + j % 2 = j := by omega
  have h2 := hc (j % 2) v hv
  rw [e2] at h1 h2
  rw [h1] at hu
  cases hu
  exact h2
theorem parts_one (l : List Portion) : ∀ u ∈ l.flatMap encPortion, u.oneCell' = true := fun u hu => by
  obtain ⟨p, _, hp⟩ := List.mem_flatMap.1 hu
  simp [encPortion] at hp
  rcases hp with rfl | rfl <;> rfl

/-- A copy of parts: a row of the call's own. -/
def CloneOut (l : List Portion) (w : World) (e : Ending) (w' : World) : Prop := ∃ A c, e = .returned (.slice A l.length c) ∧ PRow w' w.heap.size (.slice A l.length c) l ∧ Below w.heap.size w w'
set_option maxHeartbeats 2000000 in
set_option maxRecDepth 100000 in
theorem cloneP_any (A : Option Addr) (c : Nat) (l : List Portion) (w : World) (h : RdParts w A l) (hl : l.length ≤ 1000000) :
    Calls Try.prog 107 #[.slice A l.length c] w (CloneOut l w) := by
  have hq : ∀ (w : World) (a : Option Addr) (n c n' c' : Nat), (binOp .eql 41 (.slice a n c) (.slice none n' c')).run Try.prog w = .ok (.bool a.isNone) w := fun w a n c n' c' => Lib.run_eql_slice_nil w _ _ a n c n' c' Try.underlying41
  cases A with
  | none =>
    have h0 : l = [] := by
      cases l with
      | nil => rfl
      | cons a l => obtain ⟨ad, e, _⟩ := h.2 0 a rfl; cases e
    subst h0
    go_enter Try.func107, Try.ntmps107
    go_wp2
    go_ret
    exact ⟨none, 0, rfl, PRow.nil _ _, Below.refl _ _⟩
  | some ad =>
    have hb0 : Below w.heap.size w (w.alloc (.cells #[] 91)) := (Below.refl _ w).alloc (Nat.le_refl _) _
    have hnews := Lib.hid (rdparts_news (RdParts.below h hb0))
    have hown : Hid ((w.alloc (.cells #[] 91)).ownsRow w.heap.size 91 2 (.slice (some ⟨w.heap.size, 0, none⟩) 0 0) 0 []) := World.ownsRow_lit w #[] 0 (Nat.le_refl _) (by decide) rfl
    have hlen := Lib.hid (flat_len (sz := 2) (enc := encPortion) (fun _ => rfl) l)
    have hone := Lib.hid (parts_one l)
    have h63 : Hid (0 + l.length ≤ maxLen) := by unfold Hid maxLen; omega
    have hby : Hid ((0 + l.length) * 16 ≤ 140737488355328) := by unfold Hid; omega
    have hbase : Hid (w.heap.size ≤ (w.alloc (.cells #[] 91)).heap.size) := by unfold Hid; rw [World.size_alloc]; omega
    replace hb0 := Lib.hid hb0
    replace h := Lib.hid h
    replace hl := Lib.hid hl
    go_enter Try.func107, Try.ntmps107
    go_wp2_with (at_builtin; refine wp_app _ rfl (.tmp 5) (.tmp 6) 41 rfl w.heap.size 91 2 16 Try.underlying41 info91 rfl (by decide) _ 0 [] rfl hown.out ad l.length c (l.flatMap encPortion) rfl hlen.out hnews.out hone.out h63.out hby.out hbase.out ?_; intro v' w1 hown1 hgrow hnear; have hP : Hid (PRow w1 w.heap.size v' l ∧ Below w.heap.size w w1) := ⟨by rw [Nat.zero_add, List.nil_append] at hown1; exact hown1, hb0.out.grown hgrow hbase.out (fun k e => by have := hown.out.lt k e; omega)⟩; clear hown1 hgrow hnear)
    go_ret
    obtain ⟨A', c', rfl⟩ := hP.out.1.slice
    exact ⟨A', c', rfl, hP.out.1, hP.out.2⟩

/-- What behind has in memory: a row of its own. -/
structure BehI (w : World) (o : List Portion) (v : Value) (W : World) : Prop where
  below : Below w.heap.size w W
  row : PRow W w.heap.size v o
def BehOut (o : List Portion) (w : World) (e : Ending) (w' : World) : Prop := ∃ A c, e = .returned (.slice A o.length c) ∧ PRow w' w.heap.size (.slice A o.length c) o ∧ Below w.heap.size w w'
theorem addPart_len (l : List Portion) (p : Portion) : (addPart l p).length ≤ l.length + 1 := by unfold addPart; split <;> simp
theorem addPart_end {l : List Portion} {p : Portion} (h : l = [] ∨ (l.getD (l.length - 1) default).plot ≠ p.plot) : addPart l p = l ++ [p] := by
  unfold addPart; rw [if_neg]; rintro ⟨h1, h2⟩; rcases h with h | h
  · exact h1 h
  · exact h h2
theorem addPart_last {l : List Portion} {p : Portion} {m : Nat} (hm : l.length = m + 1) (h : (l[m]'(by omega)).plot = p.plot) : addPart l p = l.set m ⟨(l[m]'(by omega)).plot, (l[m]'(by omega)).loads + p.loads⟩ := by
  have e : l.length - 1 = m := by omega
  have e2 : l.getD (l.length - 1) default = l[m]'(by omega) := by rw [e]; exact getD_lt _ (by omega)
  unfold addPart
  rw [if_pos ⟨fun e3 => by rw [e3] at hm; simp at hm, by rw [e2]; exact h⟩, e2, e]
theorem addPart_all {Q : Portion → Prop} {l : List Portion} {p : Portion} (hl : ∀ x ∈ l, Q x) (hp : Q p) (hs : ∀ x ∈ l, Q ⟨x.plot, x.loads + p.loads⟩) : ∀ x ∈ addPart l p, Q x := fun x hx => by
  unfold addPart at hx
  split at hx
  · rename_i h
    rcases List.mem_or_eq_of_mem_set hx with h1 | rfl
    · exact hl x h1
    · have hlt : l.length - 1 < l.length := by have := List.length_pos_iff.2 h.1; omega
      rw [getD_lt _ hlt]
      exact hs _ (List.getElem_mem hlt)
  · rcases List.mem_append.1 hx with h1 | h1
    · exact hl x h1
    · simp at h1; subst h1; exact hp
/-- How great the loads of parts put behind others are. -/
theorem behindP_bounds (l : List Portion) (hl : ∀ p ∈ l, 0 ≤ p.loads ∧ p.loads ≤ 100000) : ∀ (more : List Portion), (∀ p ∈ more, 0 ≤ p.loads ∧ p.loads ≤ 100000) → ∀ k, k ≤ more.length → (behindP l (more.take k)).length ≤ l.length + k ∧ ∀ p ∈ behindP l (more.take k), 0 ≤ p.loads ∧ p.loads ≤ 100000 * (k + 1)
  | more, hm, 0, _ => by
    rw [List.take_zero]
    exact ⟨Nat.le_refl _, fun p hp => by have := hl p hp; omega⟩
  | more, hm, k + 1, hk => by
    obtain ⟨h1, h2⟩ := behindP_bounds l hl more hm k (by omega)
    rw [List.take_succ_eq_append_getElem (by omega), behindP_snoc]
    have hp := hm more[k] (List.getElem_mem (by omega))
    refine ⟨Nat.le_trans (addPart_len _ _) (by omega), addPart_all (fun x hx => ?_) (by omega) (fun x hx => ?_)⟩
    · have := h2 x hx; omega
    · have := h2 x hx
      show 0 ≤ x.loads + more[k].loads ∧ x.loads + more[k].loads ≤ 100000 * (((k + 1 : Nat) : Int) + 1)
      omega
theorem BehI.later {w W W' : World} {o : List Portion} {v : Value} (h : BehI w o v W) (hb : Below W.heap.size W W') : BehI w o v W' :=
  ⟨h.below.trans (hb.mono h.below.size), h.row.same fun k e => hb.block k (h.row.lt k e).2⟩
theorem BehI.push {w W w1 : World} {o : List Portion} {v v' : Value} (h : BehI w o v W) (p : Portion) (hown : w1.ownsRow w.heap.size 91 2 v' (o.length + 1) (o.flatMap encPortion ++ [.int .i64 p.plot, .int .i64 p.loads])) (hgrow : W.grownBy w1 v.ownBlock) : BehI w (o ++ [p]) v' w1 :=
  ⟨h.below.grown hgrow h.below.size (fun k e => (h.row.lt k e).1), PRow.snoc hown⟩
theorem BehI.turn {w W : World} {o : List Portion} {g cap m : Nat} (h : BehI w o (.slice (some ⟨g, 0, none⟩) (m + 1) cap) W) (hm : o.length = m + 1) (y : Int) : BehI w (o.set m ⟨(o[m]'(by omega)).plot, y⟩) (.slice (some ⟨g, 0, none⟩) (m + 1) cap) (W.setCell ⟨g, m * 2 + 1, none⟩ (.int .i64 y)) := by
  obtain ⟨hb, hr⟩ := h
  have hr' := hr
  unfold PRow at hr
  rw [hm] at hr
  have h2 := (World.ownsRow.stored hr (m * 2 + 1) (.int .i64 y)).1
  rw [← flat_set (sz := 2) (enc := encPortion) (fun _ => rfl) o m 1 ⟨(o[m]'(by omega)).plot, y⟩ (.int .i64 y) (by omega) (by decide) rfl] at h2
  refine ⟨hb.setCell (p := ⟨g, m * 2 + 1, none⟩) (hr'.lt g rfl).1 _, ?_⟩
  unfold PRow
  have e : (o.set m ⟨(o[m]'(by omega)).plot, y⟩).length = m + 1 := by rw [List.length_set]; exact hm
  rw [e]
  exact h2
theorem BehI.cells {w W : World} {o : List Portion} {v : Value} {m : Nat} (h : BehI w o v W) (hm : o.length = m + 1) : ∃ g cap, v = .slice (some ⟨g, 0, none⟩) (m + 1) cap ∧ W.cell? ⟨g, m * 2, none⟩ = some (.int .i64 (o[m]'(by omega)).plot) ∧ W.cell? ⟨g, m * 2 + 1, none⟩ = some (.int .i64 (o[m]'(by omega)).loads) ∧ W.frozen? ⟨g, m * 2 + 1, none⟩ = false ∧ g < W.heap.size := by
  have hr := h.row
  unfold PRow at hr
  rw [hm] at hr
  obtain ⟨g, cap, rfl, _, _⟩ := row_succ hr
  have c0 := flat_get (sz := 2) (enc := encPortion) (fun _ => rfl) o m (o[m]'(by omega)) 0 _ (by simp [hm]) rfl
  have c1 := flat_get (sz := 2) (enc := encPortion) (fun _ => rfl) o m (o[m]'(by omega)) 1 _ (by simp [hm]) rfl
  exact ⟨g, cap, rfl, (World.ownsRow.cellAt hr (m * 2) (by omega)).trans c0, (World.ownsRow.cellAt hr (m * 2 + 1) (by omega)).trans c1, World.ownsRow.frozenAt hr _, (h.row.lt g rfl).2⟩

set_option maxHeartbeats 2000000 in
set_option maxRecDepth 100000 in
theorem behind_any (A B : Option Addr) (c cb : Nat) (l more : List Portion) (w : World) (hA : RdParts w A l) (hB : RdParts w B more) (hm : Mild l) (hm2 : Mild more) :
    Calls Try.prog 124 #[.slice A l.length c, .slice B more.length cb] w (BehOut (behindP l more) w) := by
  have hcl := Lib.hid (cloneP_any A c l w hA hm.1)
  have hml := hm2.1
  have hll1 := hm.1
  have hbd := Lib.hid (behindP_bounds l hm.2 more hm2.2)
  obtain ⟨i0, hi0, hz0, hs0, hb0⟩ := info_parts info91
  go_enter Try.func124, Try.ntmps124
  go_wp2_with (go_at_call 107; refine hcl.out.mono ?_; rintro e w1 ⟨A1, c1, rfl, hr1, hb1⟩; replace hr1 := Lib.hid hr1; replace hb1 := Lib.hid hb1)
  go_loopw [5, 13] (fun u i wr => ∃ (k : Nat) (v : Value), u = v ∧ i = .int .i64 k ∧ k ≤ more.length ∧ Hid (BehI w (behindP l (more.take k)) v wr)) (fun _ i _ => more.length - (intOf i).toNat)
  case atStart => exact ⟨0, _, rfl, rfl, Nat.zero_le _, hb1.out, hr1.out⟩
  case round =>
    obtain ⟨k, v, rfl, rfl, hk, hR⟩ := hrel
    by_cases hlt : k < more.length
    · obtain ⟨ad, hA', p0, p1⟩ := FlatRow.at2 (FlatRow.below hB hR.out.below) hlt rfl
      subst hA'
      have hts := List.take_succ_eq_append_getElem hlt
      have hT := behindP_snoc l (more.take k) more[k]
      rw [← hts] at hT
      obtain ⟨q1, q2⟩ := hm2.2 _ (List.getElem_mem hlt)
      obtain ⟨n1, n2⟩ := hbd.out k hk
      obtain ⟨P, hP⟩ : ∃ P, P = more[k] := ⟨_, rfl⟩
      rw [← hP] at p0 p1 q1 q2 hT
      obtain ⟨pp, hpp⟩ : ∃ pp, pp = P.plot := ⟨_, rfl⟩
      obtain ⟨ll, hll⟩ : ∃ ll, ll = P.loads := ⟨_, rfl⟩
      rw [← hpp] at p0
      rw [← hll] at p1 q1 q2
      obtain ⟨o, ho⟩ : ∃ o, o = behindP l (more.take k) := ⟨_, rfl⟩
      rw [← ho] at hR hT n1 n2
      have hPe : Hid (P = ⟨pp, ll⟩) := by unfold Hid; rw [hpp, hll]
      replace hP := Lib.hid hP
      clear hpp hll hts ho
      obtain ⟨wb, hwb⟩ : ∃ wb, wb = wr.alloc (.cells #[.int .i64 pp, .int .i64 ll] 91) := ⟨_, rfl⟩
      obtain ⟨bp, hbp⟩ : ∃ bp, bp = wr.heap.size := ⟨_, rfl⟩
      have hbw : Below wr.heap.size wr wb := by rw [hwb]; exact (Below.refl _ wr).alloc (Nat.le_refl _) _
      have hR1 := hR.out.later hbw
      have bx : wb.heap[bp]? = some (.cells #[.int .i64 pp, .int .i64 ll] 91 (0, 0)) := by rw [hwb, hbp]; exact heap_new _ _ _ rfl
      have bl := (Array.getElem?_eq_some_iff.1 bx).1
      have b0 := cell_of_two bx
      have b1 : wb.cell? ⟨bp, 1, none⟩ = some (.int .i64 ll) := by simp [World.cell?, bx]
      have hz63 : Hid (o.length + 1 ≤ maxLen) := by unfold Hid maxLen; omega
      have hzby : Hid ((o.length + 1) * 16 ≤ 140737488355328) := by unfold Hid; omega
      replace hbw := Lib.hid hbw
      replace hwb := Lib.hid hwb
      replace hbp := Lib.hid hbp
      replace bx := Lib.hid bx
      by_cases hz : o.length = 0
      · have hoe : o = [] := List.eq_nil_of_length_eq_zero hz
        have hT2 := Lib.hid (hT.trans (addPart_end (.inl hoe)))
        subst hoe
        obtain ⟨A2, c2, rfl⟩ := hR1.row.slice
        replace hR1 := Lib.hid hR1
        clear hT hz
        go_wp2
        rw [← hbp.out, ← hwb.out]
        go_big_quiet (fail)
        obtain ⟨wc, hwc⟩ : ∃ wc, wc = wb.drewN nq := ⟨_, rfl⟩
        rw [← hwc]
        have hbc : Below wb.heap.size wb wc := by rw [hwc]; exact below_drewN_ _ _
        obtain ⟨rb, sb⟩ := bcell hbc
        have hR2 := Lib.hid (hR1.out.later hbc)
        have hnew := Lib.hid (new_two wc ⟨pp, ll⟩)
        have hbase : Hid (w.heap.size ≤ (wc.alloc (.cells #[.int .i64 pp, .int .i64 ll] 91)).heap.size) := by unfold Hid; rw [World.size_alloc]; have := hR2.out.below.size; omega
        replace hwc := Lib.hid hwc
        go_wp2_with (at_builtin; refine wp_app _ rfl (.tmp 43) (.tmp 45) 41 rfl w.heap.size 91 2 16 Try.underlying41 info91 rfl (by decide) _ _ _ rfl (hR2.out.later ((Below.refl _ _).alloc (Nat.le_refl _) _)).row ⟨wc.heap.size, 0, none⟩ 1 1 [.int .i64 pp, .int .i64 ll] rfl rfl hnew.out (by simp [Value.oneCell']) hz63.out hzby.out hbase.out ?_; intro v' w1 hown hgrow hnear; have hP := Lib.hid ((hR2.out.later ((Below.refl _ _).alloc (Nat.le_refl _) _)).push ⟨pp, ll⟩ hown hgrow); clear hown hgrow hnear)
        exact ⟨⟨k + 1, _, rfl, by go_num, by omega, by unfold Hid; rw [hT2.out, hPe.out]; exact hP.out⟩, by simp only [intOf]; omega⟩
      · obtain ⟨m, hmo⟩ : ∃ m, o.length = m + 1 := ⟨o.length - 1, by omega⟩
        obtain ⟨g, cap, rfl, c0, c1, f1, gs⟩ := hR1.cells hmo
        obtain ⟨Q, hQ⟩ : ∃ Q, Q = o[m]'(by omega) := ⟨_, rfl⟩
        obtain ⟨qp, hqp⟩ : ∃ qp, qp = Q.plot := ⟨_, rfl⟩
        obtain ⟨ql, hql⟩ : ∃ ql, ql = Q.loads := ⟨_, rfl⟩
        rw [← hQ, ← hqp] at c0
        rw [← hQ, ← hql] at c1
        have hq := n2 Q (by rw [hQ]; exact List.getElem_mem _)
        rw [← hql] at hq
        have hQ' : Hid (o[m]'(by omega) = ⟨qp, ql⟩) := by unfold Hid; rw [← hQ, hqp, hql]
        have hml : m < 100000000 := by omega
        replace hR1 := Lib.hid hR1
        by_cases he : qp = pp
        · have heb : (qp == pp) = true := by simpa using he
          have hT2 : Hid (behindP l (more.take (k + 1)) = o.set m ⟨qp, ql + ll⟩) := by
            unfold Hid
            rw [hT, addPart_last hmo (by rw [hQ'.out, hPe.out]; exact he), hQ'.out, hPe.out]
          have hwr : IntKind.i64.wrap (ql + ll) = ql + ll := IntWalk.i64_in _ (by omega)
          replace he := Lib.hid he
          clear hQ hqp hql hT
          go_wp2
          rw [← hbp.out, ← hwb.out]
          go_big_quiet (fail)
          obtain ⟨wc, hwc⟩ : ∃ wc, wc = wb.drewN nq := ⟨_, rfl⟩
          rw [← hwc]
          have hbc : Below wb.heap.size wb wc := by rw [hwc]; exact below_drewN_ _ _
          obtain ⟨rb, sb⟩ := bcell hbc
          have hR2 := Lib.hid (hR1.out.later hbc)
          replace hwc := Lib.hid hwc
          go_wp2
          go_region
          all_goals
            go_wp2
            have hP := hR2.out.turn hmo (ql + ll)
            rw [hQ'.out] at hP
            exact ⟨⟨k + 1, _, rfl, by go_num, by omega, by unfold Hid; rw [hT2.out]; exact hP.later ((Below.refl _ _).drew)⟩, by simp only [intOf]; omega⟩
        · have heb : (qp == pp) = false := by simpa using he
          have hT2 : Hid (behindP l (more.take (k + 1)) = o ++ [P]) := by
            unfold Hid
            rw [hT, addPart_end (.inr (by
              have e : o.length - 1 = m := by omega
              rw [e, getD_lt _ (by omega), hQ'.out, hPe.out]; exact he))]
          replace he := Lib.hid he
          clear hQ hqp hql hT
          go_wp2
          rw [← hbp.out, ← hwb.out]
          go_big_quiet (fail)
          obtain ⟨wc, hwc⟩ : ∃ wc, wc = wb.drewN nq := ⟨_, rfl⟩
          rw [← hwc]
          have hbc : Below wb.heap.size wb wc := by rw [hwc]; exact below_drewN_ _ _
          obtain ⟨rb, sb⟩ := bcell hbc
          have hR2 := Lib.hid (hR1.out.later hbc)
          have hnew := Lib.hid (new_two wc ⟨pp, ll⟩)
          have hbase : Hid (w.heap.size ≤ (wc.alloc (.cells #[.int .i64 pp, .int .i64 ll] 91)).heap.size) := by unfold Hid; rw [World.size_alloc]; have := hR2.out.below.size; omega
          replace hwc := Lib.hid hwc
          go_wp2_with (at_builtin; refine wp_app _ rfl (.tmp 43) (.tmp 45) 41 rfl w.heap.size 91 2 16 Try.underlying41 info91 rfl (by decide) _ _ _ rfl (hR2.out.later ((Below.refl _ _).alloc (Nat.le_refl _) _)).row ⟨wc.heap.size, 0, none⟩ 1 1 [.int .i64 pp, .int .i64 ll] rfl rfl hnew.out (by simp [Value.oneCell']) hz63.out hzby.out hbase.out ?_; intro v' w1 hown hgrow hnear; have hP := Lib.hid ((hR2.out.later ((Below.refl _ _).alloc (Nat.le_refl _) _)).push ⟨pp, ll⟩ hown hgrow); clear hown hgrow hnear)
          exact ⟨⟨k + 1, _, rfl, by go_num, by omega, by unfold Hid; rw [hT2.out, hPe.out]; exact hP.out⟩, by simp only [intOf]; omega⟩
    · go_wp2
      go_ret
      have hke : k = more.length := by omega
      subst hke
      rw [List.take_length] at hR
      obtain ⟨A2, c2, rfl⟩ := hR.out.row.slice
      exact ⟨A2, c2, rfl, hR.out.row, hR.out.below⟩
end Go.Proofs.Ytpgkhlpepckfgaa
end
section
namespace Go.Proofs.Ytpgkhlpepckfgaa
open Go.RowKit Go.Lib

/-- append where there is room in a row of the call's own, as one step of a region that draws. -/
theorem step_append_row {P : Program} {ops : Array Oper} {o : Oper} {a : Act} {w : World} {K : Act → World → Prop} {Q : Exit → Act → World → Prop} {E : Prop}
    (hg : o.guard = none) (s x : Operand) (t : TypeId) (hop : o.op = Op.call { callee := Callee.builtin Builtin.append, args := #[s, x], argTypes := #[t, t] })
    (e : TypeId) (i : TypeInfo) (size : Nat) (h1 : P.underlying t = some (.slice e)) (h2 : P.info? e = some i) (h4 : i.size = size)
    (g n cap : Nat) (cur : Array Value) (hgc : w.heap[g]? = some (.cells cur e (0, 0))) (hs : a.eval s = .slice (some ⟨g, 0, none⟩) n cap)
    (ad : Addr) (m c : Nat) (news : List Value) (hx : a.eval x = .slice (some ad) m c) (hn : news.length = m * size) (hc : ∀ j u, news[j]? = some u → w.cell? (ad.add j) = some u) (h1c : ∀ u ∈ news, u.oneCell' = true)
    (hroom : n + m ≤ cap) (hfit : n * size + news.length ≤ cur.size)
    (w2 : World) (he : w.setRow g (cur.toList.take (n * size) ++ news ++ cur.toList.drop (n * size + news.length)).toArray = w2)
    (hK : K (a.put o.dst (.slice (some ⟨g, 0, none⟩) (n + m) cap)) w2) :
    if Region.wanted o (yielded ops a.tmps) = true then Oper.wp P o a w K Q else E := by
  have hw : Region.wanted o (yielded ops a.tmps) = true := by simp [Region.wanted, hg]
  rw [if_pos hw]
  subst he
  subst h4
  have hrun := run_append_room (P := P) w t o.type e i h1 h2 g n cap cur hgc ad m c news hn hc h1c hroom hfit
  simp only [List.append_assoc] at hrun hK
  unfold Oper.wp
  simp [execOp, hop, resolve, invoke, builtin, hs, hx, hrun, Result.andThen]
  exact hK

theorem info77 : (Try.prog.info? 77).map (fun i => (i.zero, i.size, i.bytes)) = some (some (.agg #[.string ByteArray.empty, .int .i64 0, .int .i64 0, .slice none 0 0, .int .i64 0, .int .i64 0, .int .i64 0]), 7, 80) := by kernel_rfl
def zeroHeap : List Value := [.string ByteArray.empty, .int .i64 0, .int .i64 0, .slice none 0 0, .int .i64 0, .int .i64 0, .int .i64 0]
theorem zero77 (w : World) : (zeroValue 77).run Try.prog w = .ok (.agg zeroHeap.toArray) w := by kernel_rfl
/-- clear of one heap. -/
theorem run_clear_one (w : World) (ty : TypeId) (g o c : Nat) (cur : Array Value) (hg : w.heap[g]? = some (.cells cur 77 (0, 0))) (ho : o + 7 ≤ cur.size) :
    (Builtin.clear_ #[40] ty #[.slice (some ⟨g, o, none⟩) 1 c]).run Try.prog w = .ok (.tuple #[]) (w.setRow g (cur.toList.take o ++ zeroHeap ++ cur.toList.drop (o + 7)).toArray) := by
  have hst := run_storeCells_at Try.prog g o 77 zeroHeap 0 cur w hg (by simpa [zeroHeap] using ho) (by simp [zeroHeap, Value.oneCell'])
  have hz : (Builtin.zeroCells (Value.agg zeroHeap.toArray).cells 1).toList = zeroHeap := by
    simp [Builtin.zeroCells, Value.cells, zeroHeap]
    rfl
  simp only [Nat.add_zero] at hst
  have hl7 : zeroHeap.length = 7 := rfl
  have hz' : (Builtin.zeroCells (Value.agg #[Value.string { data := #[] }, Value.int IntKind.i64 0, Value.int IntKind.i64 0, Value.slice none 0 0, Value.int IntKind.i64 0, Value.int IntKind.i64 0, Value.int IntKind.i64 0]).cells 1).toList = zeroHeap := hz
  simp [Builtin.clear_, run_underlying Try.underlying40, hz', hst, hl7]

theorem size_three (a b c : List Value) : (a ++ b ++ c).toArray.size = a.length + b.length + c.length := by simp [Nat.add_assoc]

set_option maxHeartbeats 2000000 in
set_option maxRecDepth 100000 in
theorem delete_any (B g k r e : Nat) (l : List Heap) (W : World) (hr : W.ownsRow B 77 7 (.slice (some ⟨g, 0, none⟩) (k + 1 + r) (k + 1 + r + e)) (k + 1 + r) (l.flatMap encHeap)) (hn : l.length = k + 1 + r) (hl : l.length ≤ 1000) :
    Calls Try.prog 130 #[.slice (some ⟨g, 0, none⟩) (k + 1 + r) (k + 1 + r + e), .int .i64 k, .int .i64 ((k : Int) + 1)] W fun x w' => x = .returned (.slice (some ⟨g, 0, none⟩) (k + r) (k + 1 + r + e)) ∧ w'.ownsRow B 77 7 (.slice (some ⟨g, 0, none⟩) (k + r) (k + 1 + r + e)) (k + r) ((l.eraseIdx k).flatMap encHeap) ∧ W.grownBy w' (some g) := by
  go_enter Try.func130, Try.ntmps130
  obtain ⟨cur, hB, hcur, hcs, htk⟩ : ∃ cur : Array Value, B ≤ g ∧ W.heap[g]? = some (.cells cur 77 (0, 0)) ∧ cur.size = (k + 1 + r + e) * 7 ∧ cur.toList.take ((k + 1 + r) * 7) = l.flatMap encHeap := by
    rcases hr.2 with ⟨h', _⟩ | ⟨g', cap', cur, h', hb, hg, hnc, hcm, hcs, htake⟩
    · simp at h'
    · simp only [Value.slice.injEq, Option.some.injEq, Addr.mk.injEq, and_true, true_and] at h'
      obtain ⟨rfl, rfl⟩ := h'
      exact ⟨cur, hb, hg, hcs, htake⟩
  obtain ⟨i0, hi0, hz0, hs0, hb0⟩ := info_parts info77
  have x1 : (k : Int) ≤ (k : Int) + 1 + (r : Int) + (e : Int) := by omega
  have x2 : (k : Int) + 1 ≤ (k : Int) + 1 + (r : Int) := by omega
  have x3 : (0 : Int) ≤ (k : Int) + 1 := by omega
  obtain ⟨AD, hAD⟩ : ∃ AD, (if k + 1 + r + e = k + 1 then (some ⟨g, 0, none⟩ : Option Addr) else some ⟨g, (k + 1) * 7, none⟩) = some AD := by split <;> exact ⟨_, rfl⟩
  have hlen := flat_len (sz := 7) (enc := encHeap) encHeap_len
  have hnl : Hid (((l.drop (k + 1)).flatMap encHeap).length = r * 7) := by unfold Hid; rw [hlen, List.length_drop, hn]; congr 1; omega
  have hnews : Hid (∀ j u, ((l.drop (k + 1)).flatMap encHeap)[j]? = some u → W.cell? (AD.add j) = some u) := fun j u hu => by
    have hj := (List.getElem?_eq_some_iff.1 hu).1
    rw [hnl.out] at hj
    rw [if_neg (by omega)] at hAD
    cases hAD
    have e1 : (⟨g, (k + 1) * 7, none⟩ : Addr).add j = ⟨g, (k + 1) * 7 + j, none⟩ := by unfold Addr.add; split <;> simp_all
    rw [e1, World.ownsRow.cellAt hr _ (by omega), ← hu, ← flat_drop (sz := 7) encHeap_len, List.getElem?_drop]
  have hone : Hid (∀ u ∈ (l.drop (k + 1)).flatMap encHeap, u.oneCell' = true) := fun u hu => by
    obtain ⟨p, _, hp⟩ := List.mem_flatMap.1 hu
    simp [encHeap] at hp
    rcases hp with rfl | rfl | rfl | rfl | rfl | rfl | rfl <;> rfl
  have hroom : Hid (k + r ≤ k + 1 + r + e) := by unfold Hid; omega
  have hfit : Hid (k * 7 + ((l.drop (k + 1)).flatMap encHeap).length ≤ cur.size) := by unfold Hid; rw [hnl.out, hcs]; omega
  replace hr := Lib.hid hr
  replace hlen := Lib.hid hlen
  replace hcur := Lib.hid hcur
  replace hcs := Lib.hid hcs
  replace htk := Lib.hid htk
  replace hn := Lib.hid hn
  obtain ⟨c2, hc2⟩ : ∃ c2, c2 = (cur.toList.take (k * 7) ++ (l.drop (k + 1)).flatMap encHeap ++ cur.toList.drop (k * 7 + ((l.drop (k + 1)).flatMap encHeap).length)).toArray := ⟨_, rfl⟩
  obtain ⟨W2, hW2⟩ : ∃ W2, W2 = W.drew.setRow g c2 := ⟨_, rfl⟩
  have heq2 : Hid (W.drew.setRow g (cur.toList.take (k * 7) ++ (l.drop (k + 1)).flatMap encHeap ++ cur.toList.drop (k * 7 + ((l.drop (k + 1)).flatMap encHeap).length)).toArray = W2) := by unfold Hid; rw [hW2, hc2]
  have hg2 : W2.heap[g]? = some (.cells c2 77 (0, 0)) := by rw [hW2]; exact setRow_heap _ _ _ _ _ _ hcur.out
  have hl1 : (cur.toList.take (k * 7)).length = k * 7 := by rw [List.length_take, Array.length_toList, hcs.out]; omega
  have hz2 : c2.size = (k + 1 + r + e) * 7 := by
    rw [hc2, size_three, hl1, List.length_drop, hnl.out, show cur.toList.length = (k + 1 + r + e) * 7 from hcs.out]
    omega
  have ht2 : c2.toList.take ((k + r) * 7) = (l.eraseIdx k).flatMap encHeap := by
    rw [hc2, List.eraseIdx_eq_take_drop_succ, List.flatMap_append]
    show ((cur.toList.take (k * 7) ++ (l.drop (k + 1)).flatMap encHeap) ++ _).take _ = _
    rw [List.take_append, List.take_of_length_le (by rw [List.length_append, hl1, hnl.out]; omega), show (k + r) * 7 - (cur.toList.take (k * 7) ++ (l.drop (k + 1)).flatMap encHeap).length = 0 by rw [List.length_append, hl1, hnl.out]; omega, List.take_zero, List.append_nil]
    congr 1
    rw [← flat_take (sz := 7) encHeap_len, ← htk.out, List.take_take]
    congr 1; omega
  have hclr : ∀ ty c, (Builtin.clear_ #[40] ty #[.slice (some ⟨g, (k + r) * 7, none⟩) 1 c]).run Try.prog W2 = .ok (.tuple #[]) (W2.setRow g (c2.toList.take ((k + r) * 7) ++ zeroHeap ++ c2.toList.drop ((k + r) * 7 + 7)).toArray) := fun ty c => run_clear_one W2 ty g _ c c2 hg2 (by rw [hz2]; omega)
  obtain ⟨c3, hc3⟩ : ∃ c3, c3 = (c2.toList.take ((k + r) * 7) ++ zeroHeap ++ c2.toList.drop ((k + r) * 7 + 7)).toArray := ⟨_, rfl⟩
  rw [← hc3] at hclr
  have hfin : Hid ((W2.setRow g c3).ownsRow B 77 7 (.slice (some ⟨g, 0, none⟩) (k + r) (k + 1 + r + e)) (k + r) ((l.eraseIdx k).flatMap encHeap) ∧ W.grownBy (W2.setRow g c3) (some g)) := by
    have hl2 : (c2.toList.take ((k + r) * 7)).length = (k + r) * 7 := by rw [List.length_take, Array.length_toList, hz2]; omega
    have hmx : k + 1 + r + e ≤ maxLen := by
      rcases hr.out.2 with ⟨h', _⟩ | ⟨g', cap', cur', h', _, _, _, hcm, _⟩
      · simp at h'
      · simp only [Value.slice.injEq, Option.some.injEq, Addr.mk.injEq, and_true, true_and] at h'
        obtain ⟨_, rfl⟩ := h'
        exact hcm
    refine ⟨⟨by rw [← ht2]; exact hl2, .inr ⟨g, _, c3, rfl, hB, setRow_heap _ _ _ _ _ _ hg2, by omega, hmx, ?_, ?_⟩⟩, ⟨?_, ?_, ?_, ?_, fun j _ hj => ?_⟩⟩
    · rw [hc3, size_three, hl2, List.length_drop, show c2.toList.length = (k + 1 + r + e) * 7 from hz2, show zeroHeap.length = 7 from rfl]
      omega
    · rw [hc3, ← ht2]
      show ((c2.toList.take ((k + r) * 7) ++ zeroHeap) ++ _).take _ = _
      rw [List.append_assoc, List.take_append, List.take_of_length_le (by rw [hl2]; exact Nat.le_refl _), hl2, Nat.sub_self, List.take_zero, List.append_nil]
    · rw [hW2]; rfl
    · rw [hW2]; rfl
    · rw [hW2]; rfl
    · rw [hW2]; simp [World.setRow]
    · have hne : j ≠ g := fun e => hj (by rw [e])
      rw [setRow_other _ _ _ _ hne, hW2, setRow_other _ _ _ _ hne]; rfl
  have y1 : (k : Int) + (r : Int) ≤ (k : Int) + 1 + (r : Int) := by omega
  have y2 : (0 : Int) ≤ (k : Int) + (r : Int) := by omega
  have y3 : k + 1 + r - (k + r) = 1 := by omega
  replace hc2 := Lib.hid hc2
  replace hc3 := Lib.hid hc3
  replace hW2 := Lib.hid hW2
  replace ht2 := Lib.hid ht2
  replace hz2 := Lib.hid hz2
  replace hl1 := Lib.hid hl1
  go_wp2
  go_region_law (refine step_append_row rfl (.tmp 22) (.tmp 25) 40 rfl 77 i0 7 Try.underlying40 hi0 hs0 g k (k + 1 + r + e) cur hcur.out rfl AD r _ ((l.drop (k + 1)).flatMap encHeap) rfl hnl.out hnews.out hone.out hroom.out hfit.out W2 heq2.out ?_)
  go_wp2
  go_ret
  exact ⟨rfl, hfin.out⟩
end Go.Proofs.Ytpgkhlpepckfgaa
end
section
namespace Go.Proofs.Ytpgkhlpepckfgaa
open Go.RowKit Go.Lib

section
variable {B b : Nat} {A : Option Addr} {n c : Nat} {dry : Int} {s : Store} {W W' : World}
theorem Own.heapNe (h : Own B b A n c dry s W) {g : Nat} (hg : s.ha = some ⟨g, 0, none⟩) : g ≠ b ∧ B ≤ g ∧ g < W.heap.size :=
  ⟨fun e => h.rows.a3 g (by rw [hg]; rfl) (by rw [e]), h.rows.heapsLt (by rw [hg]; rfl)⟩
theorem Own.heapTo (h : Own B b A n c dry s W) {g i j : Nat} {u : Value} {y : Heap} (hg : s.ha = some ⟨g, 0, none⟩) (hi : i < s.heaps.length) (hj : j < 7) (he : encHeap y = (encHeap s.heaps[i]).set j u)
    (hy : (RdParts W y.pa y.parts ∧ y.name.size ≤ 140737488351232) ∧ ∀ k, y.parts ≠ [] → blk y.pa = some k → Off s (some b) k) :
    Own B b A n c dry { s with heaps := s.heaps.set i y } (W.setCell ⟨g, i * 7 + j, none⟩ u) ∧ Below B W (W.setCell ⟨g, i * 7 + j, none⟩ u) := by
  obtain ⟨n1, n2, n3⟩ := h.heapNe hg
  refine ⟨⟨h.rows.heapTo hg hi hj he hy, ?_, h.hb⟩, (Below.refl _ _).setCell (p := ⟨g, i * 7 + j, none⟩) n2 _⟩
  rw [Below.heap_setCell _ _ _ _ (fun e => n1 e.symm), h.box]
  simp
theorem Own.lastTo (h : Own B b A n c dry s W) {g i : Nat} (hg : s.la = some ⟨g, 0, none⟩) (v : Int) :
    Own B b A n c dry { s with last := s.last.set i v } (W.setCell ⟨g, i, none⟩ (.int .i64 v)) ∧ Below B W (W.setCell ⟨g, i, none⟩ (.int .i64 v)) := by
  have hb := h.rows.lastLt (k := g) (by rw [hg]; rfl)
  refine ⟨⟨h.rows.lastTo hg v, ?_, h.hb⟩, (Below.refl _ _).setCell (p := ⟨g, i, none⟩) hb.1 _⟩
  rw [Below.heap_setCell _ _ _ _ (fun e => (h.rows.a1 g (by rw [hg]; rfl)).2.2 (congrArg some e)), h.box]
  simp
theorem Own.givenTo (h : Own B b A n c dry s W) {g i : Nat} (hg : s.ga = some ⟨g, 0, none⟩) (v : Int) :
    Own B b A n c dry { s with given := s.given.set i v } (W.setCell ⟨g, i, none⟩ (.int .i64 v)) ∧ Below B W (W.setCell ⟨g, i, none⟩ (.int .i64 v)) := by
  have hb := h.rows.givenLt (k := g) (by rw [hg]; rfl)
  refine ⟨⟨h.rows.givenTo hg v, ?_, h.hb⟩, (Below.refl _ _).setCell (p := ⟨g, i, none⟩) hb.1 _⟩
  rw [Below.heap_setCell _ _ _ _ (fun e => (h.rows.a2 g (by rw [hg]; rfl)).2 (congrArg some e)), h.box]
  simp
theorem Own.yearTo (h : Own B b A n c dry s W) (y : Int) : Own B b A n c dry { s with year := y } (W.setCell ⟨b, 2, none⟩ (.int .i64 y)) ∧ Below B W (W.setCell ⟨b, 2, none⟩ (.int .i64 y)) :=
  ⟨Own.put (h.rows.year y) h.box h.hb 2 _ rfl, (Below.refl _ _).setCell (p := ⟨b, 2, none⟩) h.hb _⟩
theorem Own.usedTo (h : Own B b A n c dry s W) {P : Option Addr} {l : List Portion} (pc : Nat) (hr : RdParts W P l) (ho : ∀ k, l ≠ [] → blk P = some k → Off s (some b) k) :
    Own B b A n c dry { s with used := l, ua := P, uc := pc } (W.setCell ⟨b, 6, none⟩ (.slice P l.length pc)) ∧ Below B W (W.setCell ⟨b, 6, none⟩ (.slice P l.length pc)) :=
  ⟨Own.put (h.rows.usedTo pc hr ho) h.box h.hb 6 _ rfl, (Below.refl _ _).setCell (p := ⟨b, 6, none⟩) h.hb _⟩
theorem Own.wasteTo (h : Own B b A n c dry s W) {P : Option Addr} {l : List Portion} (pc : Nat) (hr : RdParts W P l) (ho : ∀ k, l ≠ [] → blk P = some k → Off s (some b) k) :
    Own B b A n c dry { s with waste := l, wa := P, wc := pc } (W.setCell ⟨b, 7, none⟩ (.slice P l.length pc)) ∧ Below B W (W.setCell ⟨b, 7, none⟩ (.slice P l.length pc)) :=
  ⟨Own.put (h.rows.wasteTo pc hr ho) h.box h.hb 7 _ rfl, (Below.refl _ _).setCell (p := ⟨b, 7, none⟩) h.hb _⟩
/-- The row of heaps has turned, or is a new one; and is stored. -/
theorem Own.heapsTo (h : Own B b A n c dry s W) {l : List Heap} {g cc : Nat} {row : Option Nat} (hg : W.grownBy W' row) (hrow1 : ∀ k, row = some k → blk s.ha = some k) (hrow : W'.ownsRow B 77 7 (.slice (some ⟨g, 0, none⟩) l.length cc) l.length (l.flatMap encHeap)) (hnear : blk s.ha = some g ∨ W.heap.size ≤ g)
    (hp : ∀ y ∈ l, (RdParts W y.pa y.parts ∧ y.name.size ≤ 140737488351232) ∧ ∀ k, y.parts ≠ [] → blk y.pa = some k → Off s (some b) k) (hl : l.length ≤ 1000) :
    Own B b A n c dry { s with heaps := l, ha := some ⟨g, 0, none⟩, hc := cc } (W'.setCell ⟨b, 5, none⟩ (.slice (some ⟨g, 0, none⟩) l.length cc)) ∧ Below B W (W'.setCell ⟨b, 5, none⟩ (.slice (some ⟨g, 0, none⟩) l.length cc)) := by
  have hx : W'.heap[b]? = some (.cells (shedCells A n c dry s) 128 (0, 0)) := (hg.block b h.size (fun e => h.rows.a3 b (hrow1 b e.symm) rfl)).trans h.box
  have hR := h.rows.heapsTo (W' := W') hg.size (fun k hk hne => hg.block k hk (fun e => hne (hrow1 k e.symm))) hrow (fun k e => by
    have : g = k := by simpa [blk] using e
    subst this; exact hnear) hp hl
  have hB : B ≤ W.heap.size := Nat.le_trans h.hb (Nat.le_of_lt h.size)
  exact ⟨Own.put hR hx h.hb 5 _ rfl, ((Below.refl _ _).grown hg hB (fun k e => (h.rows.heapsLt (hrow1 k e)).1)).setCell (p := ⟨b, 5, none⟩) h.hb _⟩
theorem Own.bLe (h : Own B b A n c dry s W) : B ≤ W.heap.size := Nat.le_trans h.hb (Nat.le_of_lt h.size)
end

set_option maxHeartbeats 2000000 in
set_option maxRecDepth 100000 in
theorem keep_more (B b : Nat) (A : Option Addr) (n c : Nat) (dry : Int) (s : Store) (k : Nat) (P : Option Addr) (pc : Nat) (l : List Portion) (W : World) (h : Own B b A n c dry s W) (hk : k < s.heaps.length) (hr : RdParts W P l) (ho : ∀ x, l ≠ [] → blk P = some x → Off s (some b) x) :
    Calls Try.prog 125 #[ptr b, .int .i64 k, .slice P l.length pc] W fun e w' => e = .returned (.tuple #[]) ∧ ∃ t, SameC t (keepP s k l) ∧ Own B b A n c dry t w' ∧ Below B W w' ∧ (∀ j, j < W.heap.size → j ≠ b → blk s.ha ≠ some j → (w'.heap[j]? = W.heap[j]?)) ∧ t.la = s.la ∧ t.ga = s.ga ∧ t.ha = s.ha := by
  obtain ⟨g, hg, hcells, hfz⟩ := h.rows.heapAt hk
  obtain ⟨e0, e1, e2, e3, e4, e5, e6, e7⟩ := eight_cells h.box
  have hbl := h.size
  have f5 := h.frozen 5
  have hsm := h.rows.small.2.2
  obtain ⟨n1, n2, n3⟩ := h.heapNe hg
  by_cases hl : l = []
  · subst hl
    obtain ⟨r, hr'⟩ : ∃ r, s.heaps.length = k + 1 + r := ⟨s.heaps.length - (k + 1), by omega⟩
    have hown := h.rows.heaps
    rw [hg] at hown
    obtain ⟨e, he⟩ : ∃ e, s.hc = k + 1 + r + e := by
      rcases hown.2 with ⟨h', _⟩ | ⟨g', cap', cur, h', _, _, hnc, _⟩
      · simp at h'
      · simp only [Value.slice.injEq, Option.some.injEq, Addr.mk.injEq, and_true, true_and] at h'
        obtain ⟨_, rfl⟩ := h'
        exact ⟨s.hc - (k + 1 + r), by omega⟩
    rw [hr', he] at hown
    rw [hg, hr', he] at e5
    have hdel := Lib.hid (delete_any B g k r e s.heaps W hown hr' hsm)
    have hkeep : Hid (keepP s k [] = { s with heaps := s.heaps.eraseIdx k }) := by unfold Hid keepP; rw [if_pos rfl]
    replace h := Lib.hid h
    replace hg := Lib.hid hg
    replace hr' := Lib.hid hr'
    replace he := Lib.hid he
    replace hown := Lib.hid hown
    clear hcells hfz hr ho e0 e1 e2 e3 e4 e6 e7
    go_enter Try.func125, Try.ntmps125
    go_wp2_with (go_at_call 130; refine hdel.out.mono ?_; rintro x w1 ⟨rfl, hrow1, hgr1⟩; have hh := (hgr1.block b hbl (fun e => n1 (by simpa using e.symm))); have c5 := (World.cell?_of_block (a := ⟨b, 5, none⟩) hh).trans e5; have ff5 := (World.frozen?_of_block (a := ⟨b, 5, none⟩) hh).trans f5; clear hh; replace hrow1 := Lib.hid hrow1; replace hgr1 := Lib.hid hgr1)
    refine bodyPost_ret (results_none rfl _ _ _) rfl ?_
    have hlen : (s.heaps.eraseIdx k).length = k + r := by rw [List.length_eraseIdx, if_pos hk, hr'.out]; omega
    have hf := h.out.heapsTo (l := s.heaps.eraseIdx k) (g := g) (cc := k + 1 + r + e) hgr1.out (fun j e => by rw [hg.out]; exact e) (by rw [hlen]; exact hrow1.out) (.inl (by rw [hg.out]; rfl)) (fun y hy => h.out.rows.old (List.mem_of_mem_eraseIdx hy)) (by rw [hlen]; have := hr'.out; omega)
    rw [hlen] at hf
    exact ⟨rfl, _, by rw [hkeep.out]; exact ⟨rfl, rfl, rfl, rfl, rfl, rfl⟩, hf.1, hf.2, fun j hj hjb hjg => (Below.heap_setCell _ _ _ _ (by simpa using hjb)).trans (hgr1.out.block j hj (fun e => hjg (by rw [hg.out, e]; rfl))), rfl, rfl, hg.out.symm⟩
  · have hkeep : Hid (keepP s k l = { s with heaps := s.heaps.set k (setPartsH (s.heaps.getD k default) l) }) := by unfold Hid keepP; rw [if_neg hl]
    have hlz : (((l.length : Nat) : Int) == 0) = false := by simpa using hl
    have c3 := hcells 3 _ rfl
    have f3 := hfz (k * 7 + 3)
    rw [hg] at e5
    replace h := Lib.hid h
    have hg' := Lib.hid hg
    clear hg hcells hfz e0 e1 e2 e3 e4 e6 e7
    go_enter Try.func125, Try.ntmps125
    go_wp2
    go_end0
    have hf := h.out.heapTo (j := 3) (u := .slice P l.length pc) (y := { s.heaps[k] with parts := l, pa := P, pc := pc }) hg'.out hk (by decide) rfl ⟨⟨hr, (h.out.rows.parts _ (List.getElem_mem hk)).2⟩, ho⟩
    exact ⟨rfl, _, by rw [hkeep.out]; exact ⟨rfl, rfl, rfl, by rw [List.map_set, List.map_set, getD_lt _ hk]; rfl, rfl, rfl⟩, hf.1, hf.2, fun j _ _ hjg => Below.heap_setCell _ _ _ _ (fun e => hjg (by rw [hg'.out, e]; rfl)), rfl, rfl, rfl⟩
theorem keep_any (B b : Nat) (A : Option Addr) (n c : Nat) (dry : Int) (s : Store) (k : Nat) (P : Option Addr) (pc : Nat) (l : List Portion) (W : World) (h : Own B b A n c dry s W) (hk : k < s.heaps.length) (hr : RdParts W P l) (ho : ∀ x, l ≠ [] → blk P = some x → Off s (some b) x) :
    Calls Try.prog 125 #[ptr b, .int .i64 k, .slice P l.length pc] W fun e w' => e = .returned (.tuple #[]) ∧ ∃ t, SameC t (keepP s k l) ∧ Own B b A n c dry t w' ∧ Below B W w' :=
  (keep_more B b A n c dry s k P pc l W h hk hr ho).mono fun _ _ ⟨h1, t, h2, h3, h4, _⟩ => ⟨h1, t, h2, h3, h4⟩
end Go.Proofs.Ytpgkhlpepckfgaa
end
