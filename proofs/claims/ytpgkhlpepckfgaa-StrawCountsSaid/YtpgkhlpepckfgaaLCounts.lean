/-
  The law StrawCounts, walked.
-/
import Derived.Test.YtpgkhlpepckfgaaSLed
import Derived.Test.YtpgkhlpepckfgaaSBund
import Derived.Test.YtpgkhlpepckfgaaSSame
import Derived.Test.YtpgkhlpepckfgaaSWalk2
import Derived.Test.YtpgkhlpepckfgaaGreat
import Derived.Test.YtpgkhlpepckfgaaLives
namespace Go.Proofs.Ytpgkhlpepckfgaa
open Go.RowKit Go.Lib

theorem FlatRow.at4 {α : Type} {enc : α → List Value} {w : World} {A : Option Addr} {l : List α} (h : FlatRow enc 4 w A l) {i : Nat} (hi : i < l.length)
    {v0 v1 v2 v3 : Value} (he : enc l[i] = [v0, v1, v2, v3]) : ∃ ad, A = some ad ∧
    w.cell? (ad.add (i * 4)) = some v0 ∧ w.cell? ⟨(ad.add (i * 4)).block, (ad.add (i * 4)).off + 1, none⟩ = some v1 ∧ w.cell? ⟨(ad.add (i * 4)).block, (ad.add (i * 4)).off + 2, none⟩ = some v2 ∧ w.cell? ⟨(ad.add (i * 4)).block, (ad.add (i * 4)).off + 3, none⟩ = some v3 := by
  obtain ⟨ad, e, hc⟩ := h.2 i l[i] (by simp [hi])
  rw [he] at hc
  refine ⟨ad, e, hc 0 _ rfl, ?_, ?_, ?_⟩
  · rw [← addr_field _ _ _ (by omega)]; exact hc _ _ rfl
  · rw [← addr_field _ _ _ (by omega)]; exact hc _ _ rfl
  · rw [← addr_field _ _ _ (by omega)]; exact hc _ _ rfl

set_option maxHeartbeats 2000000 in
set_option maxRecDepth 100000 in
theorem counts_any (A : Option Addr) (c : Nat) (pl : List Plot) (dry : Int) (s : Store) (nm : ByteArray) (k : Int) (w : World) (h : RdPlots w A pl) (hs : RdStore w s) (hnm : nm.size ≤ 140737488351232) :
    Calls Try.prog 6 #[.agg #[.slice A pl.length c, .int .i64 dry], storeVal s, .string nm, .int .i64 k] w fun e w' => e = .returned (.bool true) ∧ Below w.heap.size w w' := by
  obtain ⟨W0, hW0⟩ : ∃ W0, W0 = (w.alloc (.cells #[.slice A pl.length c, .int .i64 dry] 24)).alloc (.cells (storeCells s) 43) := ⟨_, rfl⟩
  have hF0 : FS w A c pl dry s W0 := by rw [hW0]; exact FS.start
  obtain ⟨d1, d2⟩ := hF0.cells
  have hz1 : w.heap.size + 1 < W0.heap.size := hF0.size
  have hz0 : w.heap.size < W0.heap.size := by omega
  replace hF0 := Lib.hid hF0
  obtain ⟨L, hL⟩ : ∃ L, L = ledP pl dry s := ⟨_, rfl⟩
  obtain ⟨B, hB⟩ : ∃ B, B = bundleP pl dry s nm k := ⟨_, rfl⟩
  replace hL := Lib.hid hL
  replace hB := Lib.hid hB
  go_enter Try.func6, Try.ntmps6
  go_wp2_with fail
  rw [← hW0]
  replace hW0 := Lib.hid hW0
  go_wp2_with (first | (go_at_call 16; refine (great_any _ _ pl _ _ (h.below hF0.out.below)).mono ?_; rintro e w1 ⟨⟨b, rfl, hgr⟩, hb1⟩; have hF1 := Lib.hid (hF0.out.later hb1); obtain ⟨k0, k1, k2, k3, k4, k5⟩ := six_cells hF1.out.store; obtain ⟨f1, f2⟩ := hF1.out.cells) | (go_at_call 22; refine (wide_any s _ (hs.below hF1.out.below)).mono ?_; rintro e w2 ⟨⟨b2, rfl, hwd⟩, hb2⟩; have hF2 := Lib.hid (hF1.out.later hb2); obtain ⟨f3, f4⟩ := hF2.out.cells; obtain ⟨m0, m1, m2, m3, m4, m5⟩ := six_cells hF2.out.store) | (go_at_call 17; refine (lives_any _).mono ?_; rintro e wL ⟨rfl, hbL⟩))
  · go_ret
    exact ⟨rfl, (hF1.out.later hbL).below⟩
  · go_ret
    exact ⟨rfl, (hF2.out.later hbL).below⟩
  · go_ret
    exact ⟨rfl, (hF2.out.later hbL).below⟩
  · obtain ⟨w1b, w2b, w3b, _, _, w6b⟩ := hwd (by first | rfl | assumption | simp_all)
    have hu : s.used.length ≤ 1000000 := by omega
    have hwl : s.waste.length ≤ 1000000 := by omega
    have hh : ∀ x ∈ s.heaps, x.parts.length ≤ 1000000 := fun x hx => Nat.le_trans (w6b x hx) (by decide)
    have c30 : ∀ W, FS w A c pl dry s W → Calls Try.prog 30 #[.agg #[.slice A pl.length c, .int .i64 dry], storeVal s] W (LedOut L W) := fun W hW => hL.out ▸ ledger_any A c pl dry s W (h.below hW.below) (hs.below hW.below) hu hwl hh
    have c31 : ∀ W, FS w A c pl dry s W → Calls Try.prog 31 #[.agg #[.slice A pl.length c, .int .i64 dry], storeVal s] W (LedOut L W) := fun W hW => hL.out ▸ rledger_any A c pl dry s W (h.below hW.below) (hs.below hW.below) hu hwl hh
    replace c30 := Lib.hid c30
    replace c31 := Lib.hid c31
    go_wp2_with (first | (go_at_call 31; refine (c31.out _ hF3.out).mono ?_; rintro e w4 ⟨A4, c4, rfl, r4, hb4⟩; have hF4 := Lib.hid (hF3.out.later hb4)) | (go_at_call 30; refine (c30.out _ hF2.out).mono ?_; rintro e w3 ⟨A3, c3, rfl, r3, hb3⟩; have hF3 := Lib.hid (hF2.out.later hb3); obtain ⟨f5, f6⟩ := hF3.out.cells; obtain ⟨n0, n1, n2, n3, n4, n5⟩ := six_cells hF3.out.store))
    clear d1 d2 k0 k1 k2 k3 k4 k5 f1 f2 f3 f4 f5 f6 m0 m1 m2 m3 m4 m5 n0 n1 n2 n3 n4 n5
    have hr3 : Hid (RdCnts w4 A3 L.1) := r3.below hb4
    have hr4 : Hid (RdCnts w4 A4 L.1) := r4
    have hln := r3.1
    clear r3 r4
    go_loopw [13] (fun i wr => ∃ k : Nat, i = .int .i64 k ∧ k ≤ L.1.length ∧ Hid (Below w4.heap.size w4 wr)) (fun i _ => L.1.length - (intOf i).toNat)
    case atStart => exact ⟨0, rfl, Nat.zero_le _, Below.refl _ _⟩
    case round =>
      obtain ⟨k', rfl, hk, hb⟩ := hrel
      by_cases hlt : k' < L.1.length
      · obtain ⟨ad3, hA3, g0, g1, g2, g3⟩ := FlatRow.at4 (FlatRow.below hr3.out hb.out) hlt rfl
        obtain ⟨ad4, hA4, l0, l1, l2, l3⟩ := FlatRow.at4 (FlatRow.below hr4.out hb.out) hlt rfl
        subst hA3
        subst hA4
        obtain ⟨x, hx⟩ : ∃ x, x = L.1[k'] := ⟨_, rfl⟩
        rw [← hx] at g0 g1 g2 g3 l0 l1 l2 l3
        replace hx := Lib.hid hx
        go_wp2
        go_big_quiet (fail)
        go_wp2
        exact ⟨⟨k' + 1, by go_num, by omega, hb.out.trans (below_drewN_ _ _)⟩, by simp only [intOf]; omega⟩
      · have hF5 := Lib.hid (hF4.out.later hb.out)
        obtain ⟨f1, f2⟩ := hF5.out.cells
        obtain ⟨n0, n1, n2, n3, n4, n5⟩ := six_cells hF5.out.store
        have c32 : ∀ W, FS w A c pl dry s W → Calls Try.prog 32 #[.agg #[.slice A pl.length c, .int .i64 dry], storeVal s, .string nm, .int .i64 k] W (BundOut B W) := fun W hW => hB.out ▸ bundle_any A c pl dry s nm k W (h.below hW.below) (hs.below hW.below) hu hwl hh
        have c33 : ∀ W, FS w A c pl dry s W → Calls Try.prog 33 #[.agg #[.slice A pl.length c, .int .i64 dry], storeVal s, .string nm, .int .i64 k] W (BundOut B W) := fun W hW => hB.out ▸ rbundle_any A c pl dry s nm k W (h.below hW.below) (hs.below hW.below) hu hwl hh
        replace c32 := Lib.hid c32
        replace c33 := Lib.hid c33
        go_wp2_with (first | (go_at_call 17; refine (lives_any _).mono ?_; rintro e wL ⟨rfl, hbL⟩) | (go_at_call 34; refine (sameParts_any _ _ _ _ B.1 B.1 _ q6.out q7.out).mono ?_; rintro e w8 ⟨rfl, hb8⟩; rw [decide_eq_true (rfl : B.1 = B.1)]; have hF8 := Lib.hid (hF7.out.later hb8)) | (go_at_call 33; refine (c33.out _ hF6.out).mono ?_; rintro e w7 ⟨A7, c7, rfl, r7, hb7⟩; have hF7 := Lib.hid (hF6.out.later hb7); have q6 := Lib.hid (r6.below hb7); have q7 := Lib.hid r7) | (go_at_call 32; refine (c32.out _ hF5.out).mono ?_; rintro e w6 ⟨A6, c6, rfl, r6, hb6⟩; have hF6 := Lib.hid (hF5.out.later hb6); obtain ⟨f5, f6⟩ := hF6.out.cells; obtain ⟨m0, m1, m2, m3, m4, m5⟩ := six_cells hF6.out.store))
        go_ret
        exact ⟨rfl, (hF8.out.later hbL).below⟩
end Go.Proofs.Ytpgkhlpepckfgaa
