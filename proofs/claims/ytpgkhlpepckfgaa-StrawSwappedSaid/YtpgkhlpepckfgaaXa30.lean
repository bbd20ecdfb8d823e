/-
  Loads of a heap are bound: walked.
-/
import Derived.Test.YtpgkhlpepckfgaaXa22
import Derived.Test.YtpgkhlpepckfgaaXa26
import Derived.Deep.AppendLies
set_option linter.all false
set_option linter.unusedVariables false
set_option linter.unusedSimpArgs false
namespace Go.Proofs.Ytpgkhlpepckfgaa
open Go.RowKit Go.Lib

/-- Three blocks are as they were. -/
def Kept3 (p q r : Nat) (w w' : World) : Prop := w'.heap[p]? = w.heap[p]? ∧ w'.heap[q]? = w.heap[q]? ∧ w'.heap[r]? = w.heap[r]?
theorem pushH_same {s t : Store} (h : SameC s t) {x y : Heap} (hxy : bareH x = bareH y) : SameC (pushH s x) (pushH t y) :=
  ⟨h.year, h.last, h.given, by simp [pushH, h.heaps, hxy], h.used, h.waste⟩
/-- A heap is put behind the others, in the row or in a new one. -/
theorem Own.push {B b : Nat} {A : Option Addr} {n c : Nat} {dry : Int} {s : Store} {W W' : World} (h : Own B b A n c dry s W) (y : Heap) {g cc : Nat} (hg : W.grownBy W' (Value.slice s.ha s.heaps.length s.hc).ownBlock)
    (hrow : W'.ownsRow B 77 7 (.slice (some ⟨g, 0, none⟩) (s.heaps.length + 1) cc) (s.heaps.length + 1) (s.heaps.flatMap encHeap ++ encHeap y)) (hnear : (Value.slice s.ha s.heaps.length s.hc).ownBlock = some g ∨ W.heap.size ≤ g)
    (hy : (RdParts W y.pa y.parts ∧ y.name.size ≤ 140737488351232) ∧ ∀ k, y.parts ≠ [] → blk y.pa = some k → Off s (some b) k) (hl : s.heaps.length < 1000) :
    Own B b A n c dry { s with heaps := s.heaps ++ [y], ha := some ⟨g, 0, none⟩, hc := cc } (W'.setCell ⟨b, 5, none⟩ (.slice (some ⟨g, 0, none⟩) (s.heaps.length + 1) cc)) ∧ Below B W (W'.setCell ⟨b, 5, none⟩ (.slice (some ⟨g, 0, none⟩) (s.heaps.length + 1) cc)) := by
  rw [ownBlock_slice] at hg hnear
  have hlen : (s.heaps ++ [y]).length = s.heaps.length + 1 := by simp
  have := h.heapsTo (l := s.heaps ++ [y]) hg (fun k e => e) (by rw [hlen, List.flatMap_append]; simpa using hrow) hnear (fun z hz => by
    rcases List.mem_append.1 hz with h1 | h1
    · exact h.rows.old h1
    · simp at h1; subst h1; exact hy) (by omega)
  rw [hlen] at this
  exact this

set_option maxHeartbeats 4000000 in
set_option maxRecDepth 100000 in
theorem bind_any (B b : Nat) (A : Option Addr) (n c : Nat) (dry : Int) (s : Store) (a : Chore) (W : World) (h : Own B b A n c dry s W) (hm : MildH s.heaps) (ho1 : a.other.size ≤ 140737488351232) :
    Calls Try.prog 101 #[ptr b, choreVal a] W (ShedOut B b A n c dry (if nameIdx a.name s.heaps < 0 then (7, s) else bindP dry s (nameIdx a.name s.heaps).toNat a) W) := by
  obtain ⟨W1, hW1⟩ : ∃ W1, W1 = W.alloc (.cells (choreCells a) 64) := ⟨_, rfl⟩
  have hb0 : Below W.heap.size W W1 := by rw [hW1]; exact (Below.refl _ W).alloc (Nat.le_refl _) _
  have hB := h.bLe
  have h1 := Lib.hid (h.later hb0)
  have hrg := nameIdx_range a.name s.heaps
  obtain ⟨i, hi⟩ : ∃ i, i = nameIdx a.name s.heaps := ⟨_, rfl⟩
  rw [← hi] at hrg ⊢
  have hch : Hid (W1.heap[W.heap.size]? = some (.cells (choreCells a) 64 (0, 0))) := by unfold Hid; rw [hW1]; exact heap_new _ _ _ rfl
  have chl := (Array.getElem?_eq_some_iff.1 hch.out).1
  have hbl := h1.out.size
  have hbc : Hid (b ≠ W.heap.size) := by have := h.size; unfold Hid; omega
  replace hb0 := Lib.hid hb0
  replace hW1 := Lib.hid hW1
  have d5 := fun W' (hW' : Own B b A n c dry s W') => (eight_cells hW'.box).2.2.2.2.2.1
  replace d5 := Lib.hid d5
  by_cases hneg : i < 0
  · rw [if_pos hneg]
    have hc := Lib.hid (heap_no b s.ha s.hc s.heaps a.name W1 (d5.out _ h1.out) h1.out.rows.heapsRd (hi ▸ hneg))
    clear hi
    go_enter Try.func101, Try.ntmps101
    go_wp2_with fail
    rw [← hW1.out]
    go_wp2_with (go_at_call 122; refine hc.out.mono ?_; rintro e w2 ⟨rfl, hb2⟩)
    exact ⟨rfl, (hb0.out.mono hB).trans (hb2.mono (Nat.le_trans hB hb0.out.size)), .inl ⟨(by decide : (7 : Int) ≠ 0), rfl⟩⟩
  · rw [if_neg hneg]
    have hc := heap_ok b s.ha s.hc s.heaps a.name W1 (d5.out _ h1.out) h1.out.rows.heapsRd (by omega)
    rw [← hi] at hc
    obtain ⟨k, hk⟩ : ∃ k : Nat, i = (k : Int) := ⟨i.toNat, by omega⟩
    subst hk
    rw [Int.toNat_natCast]
    have hkl : k < s.heaps.length := by omega
    replace hc := Lib.hid hc
    obtain ⟨_, _, _, ych, ych4, _, ych6, _⟩ := nine_cells hch.out
    replace hi := Lib.hid hi
    cases t5 : nameB a.other with
    | false =>
      have hr : Hid (bindP dry s k a = (5, s)) := by unfold Hid bindP; rw [if_pos t5]
      have hf : Hid (∀ W', Calls Try.prog 121 #[ptr b, .string a.other] W' fun e w' => e = .panicked (errChain 5) ∧ Below W'.heap.size W' w') := fun W' => fresh_name b a.other W' (by omega) t5
      go_enter Try.func101, Try.ntmps101
      go_wp2_with fail
      rw [← hW1.out]
      go_wp2_with (first | (go_at_call 122; (with_reducible refine hc.out.mono ?_); rintro e w2 ⟨rfl, hb2⟩; obtain ⟨rb, _⟩ := bcell hb2) | (go_at_call 121; (with_reducible refine (hf.out _).mono ?_); rintro e w3 ⟨rfl, hb3⟩))
      rw [hr.out]
      exact ⟨rfl, ((hb0.out.mono hB).trans (hb2.mono h1.out.bLe)).trans (hb3.mono (Nat.le_trans h1.out.bLe hb2.size)), .inl ⟨(by decide : (5 : Int) ≠ 0), rfl⟩⟩
    | true =>
      by_cases t6 : 0 ≤ nameIdx a.other s.heaps
      · have hr : Hid (bindP dry s k a = (6, s)) := by unfold Hid bindP; rw [if_neg (by rw [t5]; decide), if_pos t6]
        have hf : Hid (∀ W', Below W1.heap.size W1 W' → Calls Try.prog 121 #[ptr b, .string a.other] W' fun e w' => e = .panicked (errChain 6) ∧ Below W'.heap.size W' w') := fun W' hW' => fresh_twice b s.ha s.hc s.heaps a.other W' (d5.out _ (h1.out.later hW')) (h1.out.later hW').rows.heapsRd (by omega) t5 t6
        replace t6 := Lib.hid t6
        go_enter Try.func101, Try.ntmps101
        go_wp2_with fail
        rw [← hW1.out]
        go_wp2_with (first | (go_at_call 122; (with_reducible refine hc.out.mono ?_); rintro e w2 ⟨rfl, hb2⟩; obtain ⟨rb, _⟩ := bcell hb2) | (go_at_call 121; (with_reducible refine (hf.out _ hb2).mono ?_); rintro e w3 ⟨rfl, hb3⟩))
        rw [hr.out]
        exact ⟨rfl, ((hb0.out.mono hB).trans (hb2.mono h1.out.bLe)).trans (hb3.mono (Nat.le_trans h1.out.bLe hb2.size)), .inl ⟨(by decide : (6 : Int) ≠ 0), rfl⟩⟩
      · have hf : Hid (∀ W', Below W1.heap.size W1 W' → Calls Try.prog 121 #[ptr b, .string a.other] W' fun e w' => e = .returned (.tuple #[]) ∧ Below W'.heap.size W' w') := fun W' hW' => fresh_ok b s.ha s.hc s.heaps a.other W' (d5.out _ (h1.out.later hW')) (h1.out.later hW').rows.heapsRd (by omega) t5 (by omega)
        obtain ⟨H, hHe⟩ : ∃ H, H = s.heaps[k] := ⟨_, rfl⟩
        have hgd : s.heaps.getD k default = H := by rw [getD_lt _ hkl, ← hHe]
        have hpm : Mild H.parts := hHe ▸ hm.2 _ (List.getElem_mem hkl)
        replace hgd := Lib.hid hgd
        replace hHe := Lib.hid hHe
        replace t6 := Lib.hid t6
        go_enter Try.func101, Try.ntmps101
        go_wp2_with fail
        rw [← hW1.out]
        go_wp2_with (first | (go_at_call 122; (with_reducible refine hc.out.mono ?_); rintro e w2 ⟨rfl, hb2⟩; obtain ⟨rb, _⟩ := bcell hb2) | (go_at_call 121; (with_reducible refine (hf.out _ hb2).mono ?_); rintro e w3 ⟨rfl, hb3⟩; have h3 := h1.out.later (hb2.trans (hb3.mono hb2.size)); obtain ⟨g, hg, hH, hfz, hgl⟩ := h3.hcells hkl; rw [← hHe.out] at hH; obtain ⟨x0, x1, x2, x3, x4, x5, x6⟩ := hH; have e5 := d5.out _ h3; rw [hg] at e5; have bl3 := h3.size; replace h3 := Lib.hid h3; have hg' := Lib.hid hg; clear hg hfz))
        obtain ⟨w4, hw4⟩ : ∃ w4, w4 = w3.alloc (.cells (hcells H) 77) := ⟨_, rfl⟩
        rw [← hw4]
        have hb4 : Below w3.heap.size w3 w4 := by rw [hw4]; exact (Below.refl _ w3).alloc (Nat.le_refl _) _
        have hx : w4.heap[w3.heap.size]? = some (.cells (hcells H) 77 (0, 0)) := by rw [hw4]; exact heap_new _ _ _ rfl
        have hO4 := Lib.hid (h3.out.later hb4)
        have hb34 : Below W1.heap.size W1 w4 := (hb2.trans (hb3.mono hb2.size)).trans (hb4.mono (Nat.le_trans hb2.size hb3.size))
        have hb14 : Hid (Below B W w4) := (hb0.out.mono hB).trans (hb34.mono h1.out.bLe)
        have hx4 := (hb34.block _ chl).trans hch.out
        have hxl := (Array.getElem?_eq_some_iff.1 hx).1
        have hcl := (Array.getElem?_eq_some_iff.1 hx4).1
        obtain ⟨p0, p1, p2, p3, p4, p5, p6⟩ := seven_cells hx
        obtain ⟨_, _, _, _, y4, _, y6, _⟩ := nine_cells hx4
        have v1 := (eight_cells hO4.out.box).2.1
        have bl4 := hO4.out.size
        have hpr : RdParts w4 H.pa H.parts := hHe.out ▸ (hO4.out.rows.parts _ (List.getElem_mem hkl)).1
        have hxb : Hid (w3.heap.size ≠ b ∧ w3.heap.size ≠ g ∧ W.heap.size ≠ b ∧ W.heap.size ≠ g ∧ s.ha = some ⟨g, 0, none⟩) := by
          have i1 := h3.out.size
          have i2 := (h3.out.heapNe hg'.out).2.2
          have i3 := (h.heapNe hg'.out).2.2
          have i4 := h.size
          exact ⟨by omega, by omega, by omega, by omega, hg'.out⟩
        replace hx := Lib.hid hx
        replace hx4 := Lib.hid hx4
        replace hw4 := Lib.hid hw4
        replace hb4 := Lib.hid hb4
        replace hb34 := Lib.hid hb34
        clear x0 x1 x2 x3 x4 x5 x6 e5 ych ych4 ych6
        by_cases t1 : H.stage = 2
        · have t1b : (H.stage == 2) = true := by simpa using t1
          by_cases t2 : H.wet.hi ≤ dry
          · have t2b : decide (H.wet.hi ≤ dry) = true := decide_eq_true t2
            go_big_quiet (first | (go_at_call 75; exact Calls.quiet_of_same (demand_ok _ _)))
            obtain ⟨w5, hw5⟩ : ∃ w5, w5 = w4.drewN nq := ⟨_, rfl⟩
            rw [← hw5]
            have hb5 : Below w4.heap.size w4 w5 := by rw [hw5]; exact below_drewN_ _ _
            obtain ⟨rb, sb⟩ := bcell hb5
            have z6 := (rb W.heap.size 6 hcl).trans y6
            have hcl5 : W.heap.size < w5.heap.size := Nat.lt_of_lt_of_le hcl hb5.size
            have q43 := Lib.hid (in_any a.per 1 100 w5)
            have hkp : Hid (∀ W', Below w4.heap.size w4 W' → W'.cell? ⟨W.heap.size, 6, none⟩ = some (.int .i64 a.per) ∧ W'.cell? ⟨w3.heap.size, 3, none⟩ = some (.slice H.pa H.parts.length H.pc) ∧ Below w4.heap.size w4 W') := fun W' hW' =>
              ⟨(hW'.cell (p := ⟨W.heap.size, 6, none⟩) hcl).trans y6, (hW'.cell (p := ⟨w3.heap.size, 3, none⟩) hxl).trans p3, hW'⟩
            replace hw5 := Lib.hid hw5
            clear v1 p0 p1 p2 p4 p5 p6 rb sb
            cases t7 : inB a.per 1 100 with
            | false =>
              have hr : Hid (bindP dry s k a = (1, s)) := by unfold Hid bindP; rw [hgd.out, if_neg (by rw [t5]; decide), if_neg (by have := t6.out; omega), if_neg (by simp [t1, t2]), if_pos t7]
              go_wp2_with (first | (go_at_call 43; (with_reducible refine q43.out.mono ?_); rintro e w6 ⟨rfl, rfl⟩; rw [t7]) | (go_at_call 75; (with_reducible refine (demand_no _ _).mono ?_); rintro e w6 ⟨rfl, rfl⟩))
              rw [hr.out]
              exact ⟨rfl, hb14.out.trans (hb5.mono hO4.out.bLe), .inl ⟨(by decide : (1 : Int) ≠ 0), rfl⟩⟩
            | true =>
              have hin := t7
              simp only [inB, Bool.and_eq_true, decide_eq_true_eq] at hin
              obtain ⟨sm, hsm⟩ : ∃ sm, sm = sumL H.parts := ⟨_, rfl⟩
              obtain ⟨sm1, sm2⟩ := hpm.sum
              rw [← hsm] at sm1 sm2
              obtain ⟨q, hq⟩ : ∃ q, q = sm / a.per := ⟨_, rfl⟩
              have q1 : 0 ≤ q := by rw [hq]; exact Int.ediv_nonneg sm1 (by omega)
              have q2 : q ≤ sm := by rw [hq]; exact Int.ediv_le_self _ sm1
              have q3 : q * a.per ≤ sm := by rw [hq]; exact Int.ediv_mul_le sm (by omega)
              have dv1 : Int.tdiv sm a.per = q := by rw [hq]; exact Int.tdiv_eq_ediv_of_nonneg sm1
              have w1' : IntKind.i64.wrap q = q := IntWalk.i64_in _ (by omega)
              have hp0 : a.per ≠ 0 := by omega
              have hq68 : Hid (∀ W', Below w4.heap.size w4 W' → Calls Try.prog 68 #[.slice H.pa H.parts.length H.pc] W' fun e w' => e = .returned (.int .i64 sm) ∧ Below W'.heap.size W' w') := fun W' hW' => by rw [hsm]; exact sum_any _ _ _ _ (hpr.below hW') hpm
              have hsm' : Hid (sumL H.parts = sm) := hsm.symm
              have hq' : Hid (sm / a.per = q) := hq.symm
              clear hsm hq
              go_wp2_with (first | (go_at_call 43; (with_reducible refine q43.out.mono ?_); rintro e w6 ⟨rfl, rfl⟩; rw [t7]) | (go_at_call 75; (with_reducible refine (demand_on _ _).mono ?_); rintro e w6 ⟨rfl, rfl⟩))
              have B0 : Below w4.heap.size w4 w5.drew := hb5.drew
              have S0 := Lib.hid (hkp.out _ B0)
              replace hb5 := Lib.hid hb5
              go_region_held3 (fun w' => w'.cell? ⟨W.heap.size, 6, none⟩ = some (.int .i64 a.per) ∧ w'.cell? ⟨w3.heap.size, 3, none⟩ = some (.slice H.pa H.parts.length H.pc) ∧ Below w4.heap.size w4 w')
                (first | (with_reducible exact S0.out) | (with_reducible assumption) | (with_reducible exact hkp.out _ (by assumption)))
                (first | (go_at_call 68; (with_reducible refine (hq68.out _ (by assumption)).mono ?_); rintro e w6 ⟨rfl, hb6⟩; have h6 : Below w4.heap.size w4 w6 := Below.trans (by assumption) (hb6.mono (Below.size (by assumption)))))
              obtain ⟨N, hN⟩ : ∃ N, N = q * a.per := ⟨_, rfl⟩
              have hN0 : 0 ≤ N := by rw [hN]; exact Int.mul_nonneg q1 (by omega)
              rw [← hN] at q3
              have hNw : IntKind.i64.wrap (q * a.per) = N := by rw [← hN]; exact IntWalk.i64_in _ (by omega)
              obtain ⟨z6, z3, _⟩ := hkp.out _ h6
              have hO6 := Lib.hid (hO4.out.later h6)
              have hcut := Lib.hid (cut_fresh H.pa H.pc H.parts N w6 (hpr.below h6) hpm ⟨hN0, by omega⟩)
              have hmc := hpm.cutF N
              have hb16 : Hid (Below B W w6) := hb14.out.trans (h6.mono hO4.out.bLe)
              have hcl6 : W.heap.size < w6.heap.size := Nat.lt_of_lt_of_le hcl h6.size
              have hxl6 : w3.heap.size < w6.heap.size := Nat.lt_of_lt_of_le hxl h6.size
              have hx6 : Hid (w6.heap[W.heap.size]? = some (.cells (choreCells a) 64 (0, 0)) ∧ w6.heap[w3.heap.size]? = some (.cells (hcells H) 77 (0, 0))) := ⟨(h6.block _ hcl).trans hx4.out, (h6.block _ hxl).trans hx.out⟩
              have hN' : Hid (q * a.per = N) := hN.symm
              clear hN
              replace h6 := Lib.hid h6
              by_cases t9 : 0 < q
              · have t9b : decide (0 < q) = true := decide_eq_true t9
                obtain ⟨L, hL⟩ : ∃ L, L = (keepP s k (cutR H.parts N)).heaps.length := ⟨_, rfl⟩
                have hL2 : L ≤ 1000 := by
                  have := hO6.out.rows.small.2.2
                  rw [hL]; unfold keepP; split
                  · show (s.heaps.eraseIdx k).length ≤ 1000
                    have := List.length_eraseIdx_le s.heaps k
                    omega
                  · show (s.heaps.set k _).length ≤ 1000
                    rw [List.length_set]; exact this
                replace hL := Lib.hid hL
                go_wp2_with (first | (go_at_call 75; (with_reducible refine (demand_on _ _).mono ?_); rintro e w7 ⟨rfl, rfl⟩) | (go_at_call 69; refine hcut.out.mono ?_; rintro e w7 ⟨A1, c1, A2, c2, rfl, p1, p2, hb7, n1, n2⟩; have h7 := hO6.out.later hb7; have hkk := Lib.hid (keep_more B b A n c dry s k A2 c2 (cutR H.parts N) w7 h7 hkl p2 (fun x _ e => hO6.out.rows.newOff (n2 x e))); have hx7 := Lib.hid (And.intro ((hb7.block _ hcl6).trans hx6.out.1) ((hb7.block _ hxl6).trans hx6.out.2)); have n1' : Hid (∀ x, blk A1 = some x → w6.heap.size ≤ x) := n1; replace h7 := Lib.hid h7; replace p1 := Lib.hid p1; replace p2 := Lib.hid p2; clear n1 n2) | (go_at_call 125; refine hkk.out.mono ?_; rintro e w8 ⟨rfl, t, ht8, h8, hb8, hfr8, hla, hga, hta⟩; have y5 := (eight_cells h8.box).2.2.2.2.2.1; rw [ht8.len, ← hL.out] at y5; have bl8 := h8.size; replace h8 := Lib.hid h8; replace hta := Lib.hid hta; replace hla := Lib.hid hla; replace hga := Lib.hid hga))
                by_cases t10 : L < 16
                · have t10b : decide ((L : Int) < 16) = true := by simp; omega
                  rw [t10b]
                  have hlt : t.heaps.length = L := by rw [ht8.len, hL.out]
                  have hr : Hid (bindP dry s k a = (0, pushH (keepP s k (cutR H.parts N)) ⟨a.other, H.crop, 3, cutF H.parts N, a.per, H.wet, none, 0⟩)) := by unfold Hid bindP; rw [hgd.out, if_neg (by rw [t5]; decide), if_neg (by have := t6.out; omega), if_neg (by simp [t1, t2]), if_neg (by rw [t7]; decide), hsm'.out, hq'.out, if_neg (by omega), hN'.out, ← hL.out, if_neg (by omega)]
                  have hz7 := hb7.size
                  have hc8 : w8.heap[W.heap.size]? = some (.cells (choreCells a) 64 (0, 0)) := (hfr8 _ (by omega) hxb.out.2.2.1 (by rw [hxb.out.2.2.2.2]; intro e; exact hxb.out.2.2.2.1 (by simpa [blk] using e.symm))).trans hx7.out.1
                  have hh8 : w8.heap[w3.heap.size]? = some (.cells (hcells H) 77 (0, 0)) := (hfr8 _ (by omega) hxb.out.1 (by rw [hxb.out.2.2.2.2]; intro e; exact hxb.out.2.1 (by simpa [blk] using e.symm))).trans hx7.out.2
                  have hc8l := (Array.getElem?_eq_some_iff.1 hc8).1
                  have hh8l := (Array.getElem?_eq_some_iff.1 hh8).1
                  have hkq : Hid (∀ W' : World, Kept3 W.heap.size w3.heap.size b w8 W' → W'.cell? ⟨W.heap.size, 4, none⟩ = some (.string a.other) ∧ W'.cell? ⟨W.heap.size, 6, none⟩ = some (.int .i64 a.per) ∧ W'.cell? ⟨w3.heap.size, 1, none⟩ = some (.int .i64 H.crop) ∧ W'.cell? ⟨w3.heap.size, 5, none⟩ = some (.int .i64 H.wet.lo) ∧ W'.cell? ⟨w3.heap.size, 6, none⟩ = some (.int .i64 H.wet.hi) ∧ W'.cell? ⟨b, 5, none⟩ = some (.slice t.ha L t.hc) ∧ W'.frozen? ⟨b, 5, none⟩ = false) := fun W' hW' => by
                    have k1 := nine_cells (hW'.1.trans hc8)
                    have k2 := seven_cells (hW'.2.1.trans hh8)
                    have k3 := hW'.2.2.trans h8.out.box
                    exact ⟨k1.2.2.2.2.1, k1.2.2.2.2.2.2.1, k2.2.1, k2.2.2.2.2.2.1, k2.2.2.2.2.2.2, by rw [← hlt]; exact (eight_cells k3).2.2.2.2.2.1, frozen_of_row _ _ _ _ _ k3⟩
                  obtain ⟨i0, hi0, hz0, hs0, hbb0⟩ := info_parts info77
                  have hm63 : Hid (L + 1 ≤ maxLen) := by unfold Hid maxLen; omega
                  have hmby : Hid ((L + 1) * 80 ≤ 140737488355328) := by unfold Hid; omega
                  have hown8 : Hid (∀ W', Below w8.heap.size w8 W' → W'.ownsRow B 77 7 (.slice t.ha L t.hc) L (t.heaps.flatMap encHeap)) := fun W' hW' => by
                    have := (h8.out.later hW').rows.heaps
                    rw [hlt] at this
                    exact this
                  have hnb8 : Hid (∀ x, (Value.slice t.ha L t.hc).ownBlock = some x → x ≠ b ∧ x ≠ W.heap.size ∧ x ≠ w3.heap.size) := fun x e => by
                    rw [ownBlock_slice] at e
                    rw [hta.out, hxb.out.2.2.2.2] at e
                    have e2 : g = x := by simpa [blk] using e
                    have e3 := (hO4.out.heapNe hg'.out).1
                    exact ⟨by omega, by have := hxb.out.2.2.2.1; omega, by have := hxb.out.2.1; omega⟩
                  have hbW : Hid (∀ W' W'' : World, W'.grownBy W'' (Value.slice t.ha L t.hc).ownBlock → Kept3 W.heap.size w3.heap.size b w8 W' → w8.heap.size ≤ W'.heap.size → Kept3 W.heap.size w3.heap.size b w8 W'') := fun W' W'' hg hW' hz =>
                    ⟨(hg.block _ (by omega) (fun e => (hnb8.out _ e.symm).2.1 rfl)).trans hW'.1, (hg.block _ (by omega) (fun e => (hnb8.out _ e.symm).2.2 rfl)).trans hW'.2.1, (hg.block _ (by omega) (fun e => (hnb8.out _ e.symm).1 rfl)).trans hW'.2.2⟩
                  replace hfr8 := Lib.hid hfr8
                  replace hlt := Lib.hid hlt
                  replace ht8 := Lib.hid ht8
                  replace hb7 := Lib.hid hb7
                  replace hb8 := Lib.hid hb8
                  clear hc8 hh8 z6 z3 y4 y6 p3 y5
                  go_wp2_with (go_at_call 75; (with_reducible refine (demand_on _ _).mono ?_); rintro e w9 ⟨rfl, rfl⟩)
                  refine wp_region_seq (fun w' => Kept3 W.heap.size w3.heap.size b w8 w') ((List.range 16).map (fun i => (i, true)) ++ [(16, false), (17, false), (18, true), (19, true), (20, true), (21, false)]) 21 (by kernel_rfl) (by kernel_rfl) ⟨rfl, rfl, rfl⟩ ?_
                  rw [show (List.range 16).map (fun i => (i, true)) ++ [(16, false), (17, false), (18, true), (19, true), (20, true), (21, false)] = [(0, true), (1, true), (2, true), (3, true), (4, true), (5, true), (6, true), (7, true), (8, true), (9, true), (10, true), (11, true), (12, true), (13, true), (14, true), (15, true), (16, false), (17, false), (18, true), (19, true), (20, true), (21, false)] from rfl]
                  repeat
                    (refine wpSeq_take (v := ?_) rfl (by rfl) ?_ (fun _ _ _ h => h) ?_
                     rotate_left
                     (focus (intro w' hSw; obtain ⟨k1, k2, k3, k4, k5, k6, k7⟩ := hkq.out _ hSw; clear hSw; try simp only [List.getElem_toArray, List.getElem_cons_zero, List.getElem_cons_succ]; go_simp; try with_reducible rfl))
                     simp only [List.getElem_toArray, List.getElem_cons_zero, List.getElem_cons_succ, Act.put, List.setIfInBounds_toArray, List.set_cons_zero, List.set_cons_succ])
                  refine wpSeq_do rfl (by rfl) ?_
                  go_simp
                  obtain ⟨W9, hW9⟩ : ∃ W9, W9 = (w8.alloc (.cells #[.string a.other, .int .i64 H.crop, .int .i64 3, .slice A1 (cutF H.parts N).length c1, .int .i64 a.per, .int .i64 H.wet.lo, .int .i64 H.wet.hi] 77)).drew := ⟨_, rfl⟩
                  rw [← hW9]
                  have hb9 : Below w8.heap.size w8 W9 := by rw [hW9]; exact ((Below.refl _ w8).alloc (Nat.le_refl _) _).drew
                  have hS9 : Kept3 W.heap.size w3.heap.size b w8 W9 := ⟨hb9.block _ hc8l, hb9.block _ hh8l, hb9.block _ bl8⟩
                  have hnew : Hid (∀ j u, (encHeap ⟨a.other, H.crop, 3, cutF H.parts N, a.per, H.wet, A1, c1⟩)[j]? = some u → W9.cell? ((⟨w8.heap.size, 0, none⟩ : Addr).add j) = some u) := fun j u hu => by
                    rw [lit_add]
                    have := heap_new w8 (.cells #[.string a.other, .int .i64 H.crop, .int .i64 3, .slice A1 (cutF H.parts N).length c1, .int .i64 a.per, .int .i64 H.wet.lo, .int .i64 H.wet.hi] 77) _ rfl
                    have h2 : W9.heap[w8.heap.size]? = some (.cells #[.string a.other, .int .i64 H.crop, .int .i64 3, .slice A1 (cutF H.parts N).length c1, .int .i64 a.per, .int .i64 H.wet.lo, .int .i64 H.wet.hi] 77 (0, 0)) := by rw [hW9]; exact this
                    simp only [World.cell?, h2]
                    simpa [encHeap] using hu
                  have hone : ∀ u ∈ encHeap ⟨a.other, H.crop, 3, cutF H.parts N, a.per, H.wet, A1, c1⟩, u.oneCell' = true := fun u hu => by
                    simp [encHeap] at hu
                    rcases hu with rfl | rfl | rfl | rfl | rfl | rfl | rfl <;> rfl
                  replace hone := Lib.hid hone
                  replace hW9 := Lib.hid hW9
                  refine ⟨hS9, ?_⟩
                  refine wpSeq_do rfl (by rfl) ?_
                  simp only [List.getElem_toArray, List.getElem_cons_zero, List.getElem_cons_succ]
                  refine wp_append_lies _ (.tmp 80) (.tmp 91) 40 rfl B 77 i0 (.agg #[.string ByteArray.empty, .int .i64 0, .int .i64 0, .slice none 0 0, .int .i64 0, .int .i64 0, .int .i64 0]) 7 80 Try.underlying40 hi0 hz0 hs0 hbb0 rfl (by decide) (.slice t.ha L t.hc) L (t.heaps.flatMap encHeap) (by simp [Act.eval]) (hown8.out _ hb9) ⟨w8.heap.size, 0, none⟩ 1 1 (encHeap ⟨a.other, H.crop, 3, cutF H.parts N, a.per, H.wet, A1, c1⟩) (by simp [Act.eval]) rfl hnew.out hone.out (by decide) hm63.out hmby.out (Nat.le_trans h8.out.bLe hb9.size) _ rfl ?_
                  intro g2 cap2 w10 hrow10 hgr10 hnear10 hgl10
                  have hS10 := hbW.out _ _ hgr10 hS9 hb9.size
                  refine ⟨fun _ => hS10, ?_⟩
                  simp only [Act.put, List.setIfInBounds_toArray, List.set_cons_zero, List.set_cons_succ]
                  obtain ⟨_, _, _, _, _, c5', f5'⟩ := hkq.out _ hS10
                  repeat
                    (refine wpSeq_take (v := ?_) rfl (by rfl) ?_ (fun _ _ _ h => h) ?_
                     rotate_left
                     (focus (intro w' hSw; obtain ⟨k1, k2, k3, k4, k5, k6, k7⟩ := hkq.out _ hSw; clear hSw; try simp only [List.getElem_toArray, List.getElem_cons_zero, List.getElem_cons_succ]; go_simp; try with_reducible rfl))
                     simp only [List.getElem_toArray, List.getElem_cons_zero, List.getElem_cons_succ, Act.put, List.setIfInBounds_toArray, List.set_cons_zero, List.set_cons_succ])
                  refine wpSeq_do rfl (by rfl) ?_
                  go_simp
                  unfold wpSeq
                  go_end0
                  have hlt' := hlt.out
                  subst hlt'
                  have hz7 := hb7.out.size
                  have hO9 := h8.out.later hb9
                  have hpA : RdParts w8 A1 (cutF H.parts N) := p1.out.keep (fun x hx e => hfr8.out x (p1.out.lt hx e) (by have := n1'.out x e; have := hO6.out.size; omega) (by rw [hxb.out.2.2.2.2]; intro e2; have e3 : g = x := (by simpa [blk] using e2); have := n1'.out x e; have := (hO6.out.heapNe hg'.out).2.2; omega))
                  have hoA : ∀ x, cutF H.parts N ≠ [] → blk A1 = some x → Off t (some b) x := fun x _ e => by
                    have := hO6.out.rows.newOff (n1'.out x e)
                    unfold Off at this ⊢
                    rw [hla.out, hga.out, hta.out]
                    exact this
                  have h11 := hO9.push ⟨a.other, H.crop, 3, cutF H.parts N, a.per, H.wet, A1, c1⟩ hgr10 hrow10 (hnear10.imp id (fun e => by rw [e]; exact Nat.le_refl _)) ⟨⟨hpA.below hb9, ho1⟩, hoA⟩ (by omega)
                  rw [hr.out]
                  have hs := pushH_same (x := ⟨a.other, H.crop, 3, cutF H.parts N, a.per, H.wet, A1, c1⟩) (y := ⟨a.other, H.crop, 3, cutF H.parts N, a.per, H.wet, none, 0⟩) ht8.out rfl
                  refine ⟨(((hb16.out.trans (hb7.out.mono hO6.out.bLe)).trans hb8.out).trans (hb9.mono h8.out.bLe)).trans h11.2, .inr ⟨rfl, rfl, _, ?_, h11.1⟩⟩
                  exact ⟨hs.year, hs.last, hs.given, hs.heaps, hs.used, hs.waste⟩
                · have t10b : decide ((L : Int) < 16) = false := by simp; omega
                  have hr : Hid (bindP dry s k a = (3, s)) := by unfold Hid bindP; rw [hgd.out, if_neg (by rw [t5]; decide), if_neg (by have := t6.out; omega), if_neg (by simp [t1, t2]), if_neg (by rw [t7]; decide), hsm'.out, hq'.out, if_neg (by omega), hN'.out, ← hL.out, if_pos t10]
                  rw [t10b]
                  go_wp2_with (go_at_call 75; (with_reducible refine (demand_no _ _).mono ?_); rintro e w9 ⟨rfl, rfl⟩)
                  rw [hr.out]
                  exact ⟨rfl, ((hb16.out.trans (hb7.mono hO6.out.bLe)).trans hb8), .inl ⟨(by decide : (3 : Int) ≠ 0), rfl⟩⟩
              · have t9b : decide (0 < q) = false := decide_eq_false t9
                have hr : Hid (bindP dry s k a = (9, s)) := by unfold Hid bindP; rw [hgd.out, if_neg (by rw [t5]; decide), if_neg (by have := t6.out; omega), if_neg (by simp [t1, t2]), if_neg (by rw [t7]; decide), hsm'.out, hq'.out, if_pos t9]
                go_wp2_with (go_at_call 75; (with_reducible refine (demand_no _ _).mono ?_); rintro e w7 ⟨rfl, rfl⟩)
                rw [hr.out]
                exact ⟨rfl, hb16.out, .inl ⟨(by decide : (9 : Int) ≠ 0), rfl⟩⟩
          · have t2b : decide (H.wet.hi ≤ dry) = false := decide_eq_false t2
            have hr : Hid (bindP dry s k a = (8, s)) := by unfold Hid bindP; rw [hgd.out, if_neg (by rw [t5]; decide), if_neg (by have := t6.out; omega), if_pos (by simp [t2])]
            refine wp_region_last 14 rfl (by kernel_rfl) (by kernel_rfl) ?_
            simp only [List.take_succ_cons, List.take_zero]
            repeat (go_big_quiet_step (fail))
            refine wpQuiet_nil ?_
            rintro _ ⟨nq, rfl⟩
            go_simp
            (with_reducible refine (demand_no _ _).mono ?_)
            rintro e w8 ⟨rfl, rfl⟩
            rw [hr.out]
            exact ⟨rfl, hb14.out.trans (below_drewN_ _ _), .inl ⟨(by decide : (8 : Int) ≠ 0), rfl⟩⟩
        · have t1b : (H.stage == 2) = false := by simpa using t1
          have hr : Hid (bindP dry s k a = (8, s)) := by unfold Hid bindP; rw [hgd.out, if_neg (by rw [t5]; decide), if_neg (by have := t6.out; omega), if_pos (by simp [t1])]
          refine wp_region_last 14 rfl (by kernel_rfl) (by kernel_rfl) ?_
          simp only [List.take_succ_cons, List.take_zero]
          repeat (go_big_quiet_step (fail))
          refine wpQuiet_nil ?_
          rintro _ ⟨nq, rfl⟩
          go_simp
          (with_reducible refine (demand_no _ _).mono ?_)
          rintro e w8 ⟨rfl, rfl⟩
          rw [hr.out]
          exact ⟨rfl, hb14.out.trans (below_drewN_ _ _), .inl ⟨(by decide : (8 : Int) ≠ 0), rfl⟩⟩
end Go.Proofs.Ytpgkhlpepckfgaa
