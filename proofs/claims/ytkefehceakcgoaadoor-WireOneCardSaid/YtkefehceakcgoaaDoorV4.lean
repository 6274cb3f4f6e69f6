/- A number's bytes are read as that number (plain). -/
import Derived.Test.YtkefehceakcgoaaDoorV3
namespace Go.Proofs.YtkefehceakcgoaaDoor
open Go.RowKit
set_option linter.unusedVariables false
set_option linter.unusedSimpArgs false

theorem numR_more (m : Nat) : ∀ k acc r, acc < 128 ^ k → acc + m * 128 ^ k < 18446744073709551616 → (0 < m ∨ k = 0) → k ≤ 9 → numR (venc m ++ r) k acc = .ok (acc + m * 128 ^ k) (k + (venc m).length) := by
  induction m using Nat.strongRecOn with
  | _ m ih =>
    intro k acc r ha hv hm hk
    obtain ⟨P, hP⟩ : ∃ P, P = 128 ^ k := ⟨_, rfl⟩
    have hP1 : 1 ≤ P := by rw [hP]; exact Nat.pow_pos (by decide)
    by_cases h : m < 128
    · rw [venc_lt h]
      simp only [List.singleton_append, numR]
      have hmod : ((m : Int).toNat % 128) = m := by omega
      rw [if_neg (by omega), if_pos (by omega), hmod]
      have hform : ¬ ((k + 1 = 10 ∧ 1 < (m : Int)) ∨ (1 < k + 1 ∧ (m : Int) = 0)) := by
        rintro (⟨h1, h2⟩ | ⟨h1, h2⟩)
        · obtain rfl : k = 9 := by omega
          have : (128 : Nat) ^ 9 = 9223372036854775808 := by decide
          rw [this] at hv
          omega
        · omega
      rw [if_neg hform, Nat.mod_eq_of_lt hv]
      rfl
    · rw [venc_ge h]
      simp only [List.cons_append, numR, List.length_cons]
      have hs : (128 : Nat) ^ (k + 1) = P * 128 := by rw [hP, Nat.pow_succ]
      have hk9 : k + 1 ≤ 9 := by
        rcases Nat.lt_or_ge k 9 with h' | h'
        · omega
        · obtain rfl : k = 9 := by omega
          have : (128 : Nat) ^ 9 = 9223372036854775808 := by decide
          rw [this] at hv
          omega
      have hmod : (((m % 128 + 128 : Nat) : Int).toNat % 128) = m % 128 := by omega
      rw [if_neg (by omega), if_neg (by omega), hmod]
      have hq : m * P = m / 128 * (P * 128) + m % 128 * P := by
        have e : m = m / 128 * 128 + m % 128 := by omega
        conv => lhs; rw [e]
        rw [Nat.add_mul, Nat.mul_assoc, Nat.mul_comm 128 P]
      rw [← hP] at ha hv ⊢
      have ht : m % 128 * P ≤ 127 * P := Nat.mul_le_mul_right P (by omega)
      have hlt : acc + m % 128 * P < P * 128 := by omega
      have hle : acc + m % 128 * P < 18446744073709551616 := by omega
      rw [Nat.mod_eq_of_lt hle, ih (m / 128) (by omega) (k + 1) _ r (by rw [hs]; exact hlt) (by rw [hs]; omega) (.inl (by omega)) hk9, hs]
      congr 1 <;> omega
theorem numR_venc (n : Nat) (r : List Int) (hn : n < 18446744073709551616) : numR (venc n ++ r) 0 0 = .ok n (venc n).length := by
  have := numR_more n 0 0 r (by decide) (by simpa using hn) (.inr rfl) (by decide)
  simpa using this
end Go.Proofs.YtkefehceakcgoaaDoor
