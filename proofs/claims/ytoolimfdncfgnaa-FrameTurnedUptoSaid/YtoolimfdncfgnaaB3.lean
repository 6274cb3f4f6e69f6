/- What Scan tells: pieces one behind the other; of frames, of what is cut off, of what stands behind. -/
import Derived.Test.YtoolimfdncfgnaaB2
namespace Go.Proofs.Ytoolimfdncfgnaa
open Go.RowKit
set_option linter.unusedVariables false
set_option linter.unusedSimpArgs false

inductive Chain (l : List Int) : Nat → List Pc → Nat → Prop
  | nil (n : Nat) : Chain l n [] n
  | cons {n k s m u e : Nat} {ps : List Pc} (h : headS (l.drop n) = .ok k s m u) (hf : n + 24 + m ≤ l.length) (hs : sumS ((l.drop (n + 24)).take m) = u)
      (t : Chain l (n + 24 + m) ps e) : Chain l n (⟨k, s, n + 24, m⟩ :: ps) e
theorem Chain.le {l : List Int} {n e : Nat} {ps : List Pc} (h : Chain l n ps e) : n + 24 * ps.length ≤ e := by
  induction h with
  | nil n => simp
  | cons h hf hs t ih => simp; omega
theorem Chain.end_le {l : List Int} {n e : Nat} {ps : List Pc} (h : Chain l n ps e) (hn : n ≤ l.length) : e ≤ l.length := by
  induction h with
  | nil n => exact hn
  | cons h hf hs t ih => exact ih hf

theorem scan_chain (l : List Int) (f : Nat) : ∀ n, n ≤ l.length → l.length < f + n →
    Chain l n (scanS l f n).1 (scanS l f n).2.1 ∧ (scanS l f n).2.1 ≤ l.length ∧ ((scanS l f n).2.2 = 0 ↔ (scanS l f n).2.1 = l.length) ∧ (scanS l f n).2.2 ≤ 25 := by
  induction f with
  | zero => intro n hn hl; omega
  | succ f ih =>
    intro n hn hl
    by_cases h : n < l.length
    · rw [scanS, if_pos h]
      cases hq : headS (l.drop n) with
      | torn => exact ⟨.nil n, hn, by simp; omega, by simp⟩
      | bad => exact ⟨.nil n, hn, by simp; omega, by simp⟩
      | ok k s m u =>
        simp only
        by_cases h1 : l.length - (n + 24) < m
        · rw [if_pos h1]; exact ⟨.nil n, hn, by simp; omega, by simp⟩
        · rw [if_neg h1]
          obtain ⟨h24, -⟩ := ok_len hq
          have h24' : n + 24 ≤ l.length := by simp at h24; omega
          by_cases h2 : sumS ((l.drop (n + 24)).take m) = u
          · rw [if_pos h2]
            obtain ⟨c, e, z, y⟩ := ih (n + 24 + m) (by omega) (by omega)
            exact ⟨.cons hq (by omega) h2 c, e, z, y⟩
          · rw [if_neg h2]; exact ⟨.nil n, hn, by simp; omega, by simp⟩
    · rw [scanS, if_neg h]
      exact ⟨.nil n, hn, by simp; omega, by simp⟩

theorem getD_take (l : List Int) (k j : Nat) (h : j < k) : (l.take k).getD j 0 = l.getD j 0 := by
  simp only [List.getD_eq_getElem?_getD, List.getElem?_take, if_pos h]
/-- A head hangs on 24 bytes alone. -/
theorem headS_take (l : List Int) (k : Nat) (hk : 24 ≤ k) (hl : 24 ≤ l.length) : headS (l.take k) = headS l := by
  have e3 : hKind (l.take k) = hKind l := by unfold hKind; rw [getD_take l k 3 (by omega)]
  have eL : hLen (l.take k) = hLen l := by unfold hLen; rw [List.drop_take, List.take_take, Nat.min_eq_left (by omega)]
  have eS : hSeq (l.take k) = hSeq l := by unfold hSeq; rw [List.drop_take, List.take_take, Nat.min_eq_left (by omega)]
  have eU : hSum (l.take k) = hSum l := by unfold hSum; rw [getD_take l k 16 (by omega), getD_take l k 17 (by omega), getD_take l k 18 (by omega), getD_take l k 19 (by omega)]
  have eO : hOwn (l.take k) = hOwn l := by unfold hOwn; rw [getD_take l k 20 (by omega), getD_take l k 21 (by omega), getD_take l k 22 (by omega), getD_take l k 23 (by omega)]
  have eM : magic (l.take k) ↔ magic l := by unfold magic; rw [getD_take l k 0 (by omega), getD_take l k 1 (by omega), getD_take l k 2 (by omega)]
  have e20 : (l.take k).take 20 = l.take 20 := by rw [List.take_take, Nat.min_eq_left (by omega)]
  unfold headS
  rw [e3, eL, eS, eU, eO, e20]
  have hlen : ¬ (l.take k).length < 24 := by simp; omega
  rw [if_neg hlen, if_neg (show ¬ l.length < 24 by omega)]
  by_cases hc : magic l ∧ 1 ≤ hKind l ∧ hKind l ≤ 9 ∧ hLen l ≤ 1048576 ∧ hOwn l = sumS (l.take 20)
  · rw [if_pos hc, if_pos ⟨eM.2 hc.1, hc.2⟩]
  · rw [if_neg hc, if_neg (fun h => hc ⟨eM.1 h.1, h.2⟩)]

/-- Of the bytes up to where a scan ended: the same pieces, and no error. -/
theorem chain_scan {l : List Int} {n e : Nat} {ps : List Pc} (h : Chain l n ps e) (he : e ≤ l.length) : ∀ f, e < f + n → scanS (l.take e) f n = (ps, e, 0) := by
  have hle : (l.take e).length = e := by simp; omega
  induction h with
  | nil n =>
    intro f hf
    cases f with
    | zero => rfl
    | succ f => rw [scanS, if_neg (by rw [hle]; omega)]
  | @cons n k s m u e ps h hf hs t ih =>
    intro f hf'
    have h1 := t.le
    obtain ⟨f, rfl⟩ : ∃ f', f = f' + 1 := ⟨f - 1, by omega⟩
    obtain ⟨h24, -⟩ := ok_len h
    rw [scanS, if_pos (by rw [hle]; omega)]
    have hd : (l.take e).drop n = (l.drop n).take (e - n) := by rw [List.drop_take]
    rw [hd, headS_take _ _ (by omega) h24, h]
    simp only
    rw [hle, if_neg (by omega)]
    have hd2 : ((l.take e).drop (n + 24)).take m = (l.drop (n + 24)).take m := by rw [List.drop_take, List.take_take, Nat.min_eq_left (by omega)]
    rw [hd2, if_pos hs, ih he hle f (by omega)]
end Go.Proofs.Ytoolimfdncfgnaa
