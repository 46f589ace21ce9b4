/- Laws of decoding: a form lies within its text; its last byte tells whether it is one of the first 128. -/
import Derived.Test.YtialpfmaekagjaaMem
import Derived.Laws.RangeAny
namespace Go.Proofs.Ytialpfmaekagjaa
open Go.RowKit

theorem decode_two (s : ByteArray) (pos : Nat) (h : pos < s.size) : pos + (Utf8.decode s pos).2 ≤ s.size ∧
    (((Utf8.decode s pos).1 = (s.get! pos).toNat ∧ (s.get! pos).toNat < 128 ∧ (Utf8.decode s pos).2 = 1) ∨ (128 ≤ (Utf8.decode s pos).1 ∧ 128 ≤ (s.get! (pos + (Utf8.decode s pos).2 - 1)).toNat)) := by
  have hre : (128 : Nat) ≤ Utf8.runeError := by decide
  unfold Utf8.decode
  dsimp only
  simp only [Nat.add_zero]
  split
  · exact ⟨by dsimp only; omega, .inl ⟨rfl, by assumption, rfl⟩⟩
  · rename_i h0
    split
    · rename_i h1
      simp only [Bool.and_eq_true, decide_eq_true_eq, beq_iff_eq] at h1
      split
      · exact ⟨by dsimp only; omega, .inr ⟨by dsimp only; omega, by dsimp only; rw [show pos + 2 - 1 = pos + 1 by omega]; omega⟩⟩
      · exact ⟨by dsimp only; omega, .inr ⟨hre, by dsimp only; rw [Nat.add_sub_cancel]; omega⟩⟩
    · split
      · rename_i _ h1
        simp only [Bool.and_eq_true, decide_eq_true_eq, beq_iff_eq] at h1
        split
        · rename_i h2
          simp only [Bool.and_eq_true, decide_eq_true_eq] at h2
          have h2a := h2.1
          exact ⟨by dsimp only; omega, .inr ⟨by dsimp only; omega, by dsimp only; rw [show pos + 3 - 1 = pos + 2 by omega]; omega⟩⟩
        · exact ⟨by dsimp only; omega, .inr ⟨hre, by dsimp only; rw [Nat.add_sub_cancel]; omega⟩⟩
      · split
        · rename_i _ _ h1
          simp only [Bool.and_eq_true, decide_eq_true_eq, beq_iff_eq] at h1
          split
          · rename_i h2
            simp only [Bool.and_eq_true, decide_eq_true_eq] at h2
            have h2a := h2.1
            exact ⟨by dsimp only; omega, .inr ⟨by dsimp only; omega, by dsimp only; rw [show pos + 4 - 1 = pos + 3 by omega]; omega⟩⟩
          · exact ⟨by dsimp only; omega, .inr ⟨hre, by dsimp only; rw [Nat.add_sub_cancel]; omega⟩⟩
        · exact ⟨by dsimp only; omega, .inr ⟨hre, by dsimp only; rw [Nat.add_sub_cancel]; omega⟩⟩
theorem decode_fit (s : ByteArray) (pos : Nat) (h : pos < s.size) : pos + (Utf8.decode s pos).2 ≤ s.size := (decode_two s pos h).1
end Go.Proofs.Ytialpfmaekagjaa
