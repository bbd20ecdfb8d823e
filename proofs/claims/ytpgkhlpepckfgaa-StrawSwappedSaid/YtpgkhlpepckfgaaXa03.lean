/-
  When a string is a name: told over its bytes, and over its runes. No program is named here.
-/
import Derived.Lib.DecodeN
import Derived.Shelf.GgClosure.StringsIndexFunc
set_option linter.all false
set_option linter.unusedVariables false
set_option linter.unusedSimpArgs false
namespace Go.Proofs.Ytpgkhlpepckfgaa
open Go.Lib

/-- A byte that a name may have behind its first one. -/
def nameByte (b : Nat) : Bool := (decide (97 ≤ b) && decide (b ≤ 122)) || (decide (48 ≤ b) && decide (b ≤ 57)) || decide (b = 45)
/-- A rune that no name has. -/
def badRune (r : Nat) : Bool := !nameByte r
/-- All bytes of a string are such. -/
def allNameBytes (s : ByteArray) : Bool := decide (∀ i, i < s.size → nameByte (s.get! i).toNat = true)
/-- A name: 1 to 16 bytes, the first one a letter. -/
def nameB (s : ByteArray) : Bool := decide (1 ≤ s.size) && decide (s.size ≤ 16) && decide (97 ≤ (s.get! 0).toNat) && decide ((s.get! 0).toNat ≤ 122) && allNameBytes s

theorem decodeN_high (n b0 b1 b2 b3 : Nat) (h : 128 ≤ b0) (_hb : b0 < 256) : 128 ≤ (decodeN n b0 b1 b2 b3).1 := by
  unfold decodeN
  repeat' (first | split | (simp only []; omega))

theorem badRune_high {r : Nat} (h : 128 ≤ r) : badRune r = true := by
  simp [badRune, nameByte]; omega

theorem idx_from (s : ByteArray) : ∀ (f pos : Nat), s.size ≤ pos + f → (0 ≤ idxFuncFrom badRune true s f pos ↔ ¬ (∀ i, pos ≤ i → i < s.size → nameByte (s.get! i).toNat = true))
  | 0, pos, h => by
    have h1 : (∀ i, pos ≤ i → i < s.size → nameByte (s.get! i).toNat = true) := fun i h1 h2 => by omega
    exact ⟨fun h2 => by simp [idxFuncFrom] at h2, fun h2 => absurd h1 h2⟩
  | f + 1, pos, h => by
    unfold idxFuncFrom
    by_cases hp : pos < s.size
    · rw [if_pos hp]
      have hb : (s.get! pos).toNat < 256 := UInt8.toNat_lt _
      by_cases hl : (s.get! pos).toNat < 128
      · have hd : Utf8.decode s pos = ((s.get! pos).toNat, 1) := by rw [decode_at]; simp [decodeN, hl]
        rw [hd]
        simp only []
        by_cases hg : nameByte (s.get! pos).toNat = true
        · rw [if_neg (by simp [badRune, hg]), idx_from s f (pos + 1) (by omega)]
          refine not_congr ⟨fun hx i h1 h2 => ?_, fun hx i h1 h2 => hx i (by omega) h2⟩
          rcases Nat.eq_or_lt_of_le h1 with rfl | h3
          · exact hg
          · exact hx i h3 h2
        · rw [if_pos (by simp [badRune, hg])]
          exact ⟨fun _ hx => hg (hx pos (Nat.le_refl _) hp), fun _ => by omega⟩
      · have h1 : 128 ≤ (Utf8.decode s pos).1 := by rw [decode_at]; exact decodeN_high _ _ _ _ _ (by omega) hb
        rw [if_pos (badRune_high h1)]
        refine ⟨fun _ hx => ?_, fun _ => by omega⟩
        have h2 := hx pos (Nat.le_refl _) hp
        simp [nameByte] at h2
        omega
    · rw [if_neg hp]
      have h1 : (∀ i, pos ≤ i → i < s.size → nameByte (s.get! i).toNat = true) := fun i h1 h2 => by omega
      exact ⟨fun h2 => by simp at h2, fun h2 => absurd h1 h2⟩

theorem idx_bad (s : ByteArray) : decide (0 ≤ idxFunc badRune true s) = !allNameBytes s := by
  unfold idxFunc allNameBytes
  have h := idx_from s s.size 0 (by omega)
  by_cases hx : ∀ i, i < s.size → nameByte (s.get! i).toNat = true
  · have : ¬ 0 ≤ idxFuncFrom badRune true s s.size 0 := fun h0 => h.1 h0 (fun i _ => hx i)
    simp only [decide_eq_false this, decide_eq_true hx, Bool.not_true]
  · have : 0 ≤ idxFuncFrom badRune true s s.size 0 := h.2 (fun h1 => hx (fun i => h1 i (Nat.zero_le _)))
    simp only [decide_eq_true this, hx, decide_false, Bool.not_false]
end Go.Proofs.Ytpgkhlpepckfgaa
