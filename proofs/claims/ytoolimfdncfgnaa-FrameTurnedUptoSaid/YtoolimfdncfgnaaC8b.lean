/- What a right head is, read the other way round. -/
import Derived.Test.YtoolimfdncfgnaaC8
namespace Go.Proofs.Ytoolimfdncfgnaa
open Go.RowKit
set_option linter.unusedVariables false
set_option linter.unusedSimpArgs false

theorem leS_loB (x : Nat) (hx : x < 4294967296) (a b c d : Int) (h : [a, b, c, d] = loB 4 x) : leS a b c d = x := by
  simp only [loB, List.range, List.range.loop, List.map, List.cons.injEq, and_true] at h
  obtain ⟨rfl, rfl, rfl, rfl⟩ := h
  have e0 : x / 2 ^ (8 * 0) % 256 = x % 256 := by
    show x / 1 % 256 = _
    omega
  have e1 : x / 2 ^ (8 * 1) % 256 = x / 256 % 256 := rfl
  have e2 : x / 2 ^ (8 * 2) % 256 = x / 65536 % 256 := rfl
  have e3 : x / 2 ^ (8 * 3) % 256 = x / 16777216 % 256 := rfl
  simp only [leS, Int.toNat_natCast, e0, e1, e2, e3]
  omega
theorem head_back {l : List Int} (hb : Bytes l) (hl : 24 ≤ l.length) (hk : hKind l < 256) (h : l.take 24 = head24 (hKind l) (hSeq l) (hLen l) (hSum l)) : magic l ∧ hOwn l = sumS (l.take 20) := by
  have t20 : l.take 20 = head20 (hKind l) (hSeq l) (hLen l) (hSum l) := by
    have := congrArg (List.take 20) h
    rw [List.take_take, show min 20 24 = 20 from rfl] at this
    rw [this, head24, List.take_append_of_le_length (by rw [head20_len]; decide), List.take_of_length_le (by rw [head20_len]; decide)]
  have d20 : (l.drop 20).take 4 = loB 4 (sumS (l.take 20)) := by
    have := congrArg (List.drop 20) h
    rw [List.drop_take, show 24 - 20 = 4 from rfl] at this
    rw [this, head24, t20]
    rw [List.drop_append_of_le_length (by rw [head20_len]; decide), List.drop_of_length_le (by rw [head20_len]; decide), List.nil_append]
  constructor
  · have h4 : l.take 4 = [83, 80, 82, (hKind l : Int)] := by
      have := congrArg (List.take 4) t20
      rw [List.take_take, show min 4 20 = 4 from rfl] at this
      rw [this]
      rfl
    have hf := four_at l 0 (by omega)
    rw [List.drop_zero, h4] at hf
    simp only [List.cons.injEq] at hf
    exact ⟨hf.1.symm, hf.2.1.symm, hf.2.2.1.symm⟩
  · have hf := four_at l 20 (by omega)
    rw [d20] at hf
    refine leS_loB _ ?_ _ _ _ _ hf.symm
    rw [t20]
    exact more_lt (by decide) (head20_bytes _ _ _ hk)
theorem headS_ok {l : List Int} (hb : Bytes l) (hl : 24 ≤ l.length) (h1 : 1 ≤ hKind l) (h9 : hKind l ≤ 9) (hn : hLen l ≤ 1048576) (h : l.take 24 = head24 (hKind l) (hSeq l) (hLen l) (hSum l)) :
    headS l = .ok (hKind l) (hSeq l) (hLen l) (hSum l) := by
  obtain ⟨hm, ho⟩ := head_back hb hl (by omega) h
  unfold headS
  rw [if_neg (by omega), if_pos ⟨hm, h1, h9, hn, ho⟩]
theorem headS_bad {l : List Int} (hb : Bytes l) (hl : 24 ≤ l.length) (h : hKind l < 1 ∨ 9 < hKind l ∨ 1048576 < hLen l ∨ l.take 24 ≠ head24 (hKind l) (hSeq l) (hLen l) (hSum l)) :
    headS l = .bad := by
  have hne : ∀ k s n u, headS l ≠ .ok k s n u := fun k s n u e => by
    have e' := e
    unfold headS at e'
    rw [if_neg (by omega)] at e'
    split at e'
    · rename_i hc
      injection e' with e1 e2 e3 e4
      have := (head_form hb e).2.1
      rw [← e1, ← e2, ← e3, ← e4] at this
      rcases h with h | h | h | h
      · omega
      · omega
      · omega
      · exact h this
    · cases e'
  unfold headS at hne ⊢
  rw [if_neg (by omega)] at hne ⊢
  split at hne
  · exact absurd rfl (hne _ _ _ _)
  · rename_i hc
    rw [if_neg hc]
end Go.Proofs.Ytoolimfdncfgnaa
