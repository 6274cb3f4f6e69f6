/- What is written is read, and by these bytes alone (plain); a text as new bytes. -/
import Derived.Test.YtlcbgklealipoaaGreatDoorRt
import Derived.Lib.ConvBytes
namespace Go.Proofs.YtlcbgklealipoaaGreatDoor
open Go.RowKit

set_option linter.unusedVariables false
set_option linter.unusedSimpArgs false
theorem textR_written {l : List Int} {n most : Nat} {q rest : List Int} (he : l.drop n = (venc q.length ++ q) ++ rest) (hq : Runes q) (hm : q.length ≤ most) (h64 : q.length < 18446744073709551616) : textR l n most = .ok q (n + (venc q.length).length + q.length) := by
  have hl := congrArg List.length he
  rw [List.length_drop, List.length_append, List.length_append] at hl
  have hp := venc_pos q.length
  have e1 : numR (l.drop n) 0 0 = .ok q.length (venc q.length).length := by rw [he, List.append_assoc]; exact numR_venc _ _ h64
  have e2 : (l.drop (n + (venc q.length).length)).take q.length = q := by
    rw [← List.drop_drop, he, List.append_assoc, List.drop_left, List.take_left]
  unfold textR
  rw [if_neg (by omega), e1]
  simp only [textQ]
  rw [if_neg (by omega), if_neg (by omega), e2, badR_runes hq]
theorem rawR_written {l : List Int} {n : Nat} {q rest : List Int} (he : l.drop n = q ++ rest) : rawR l n q.length = .ok q (n + q.length) := by
  have hl := congrArg List.length he
  rw [List.length_drop, List.length_append] at hl
  unfold rawR
  rw [if_neg (by omega), if_neg (by omega), he, Int.toNat_natCast, List.take_left]

/-- A number that was read is written by just the bytes that it was read from. -/
theorem numR_back (l : List Int) : ∀ k acc x m, Bytes l → k ≤ 9 → acc < 128 ^ k → numR l k acc = .ok x m → ∃ y, x = acc + y * 128 ^ k ∧ l.take (m - k) = venc y ∧ (k = 0 ∨ 0 < y) ∧ k < m := by
  induction l with
  | nil => intro k acc x m _ _ _ h; unfold numR at h; split at h <;> cases h
  | cons b t ih =>
    intro k acc x m hb hk ha h
    have hb0 := hb b (List.mem_cons_self ..)
    have hbt : Bytes t := fun z hz => hb z (List.mem_cons_of_mem _ hz)
    unfold numR at h
    rw [if_neg (by omega)] at h
    obtain ⟨c, rfl⟩ : ∃ c : Nat, b = c := ⟨b.toNat, by omega⟩
    obtain ⟨P, hP⟩ : ∃ P, P = 128 ^ k := ⟨_, rfl⟩
    have hP1 : 1 ≤ P := by rw [hP]; exact Nat.pow_pos (by decide)
    have hP9 : P ≤ 9223372036854775808 := by rw [hP]; exact Nat.le_trans (Nat.pow_le_pow_right (by decide) hk) (by decide)
    have hP8 : k ≤ 8 → P ≤ 72057594037927936 := fun h8 => by rw [hP]; exact Nat.le_trans (Nat.pow_le_pow_right (by decide) h8) (by decide)
    rw [← hP] at ha h ⊢
    have hc : (c : Int).toNat = c := by omega
    rw [hc] at h
    by_cases h128 : (c : Int) < 128
    · rw [if_pos h128] at h
      by_cases hform : (k + 1 = 10 ∧ 1 < (c : Int)) ∨ (1 < k + 1 ∧ (c : Int) = 0)
      · rw [if_pos hform] at h; cases h
      · rw [if_neg hform] at h
        injection h with h1 h2
        have hcm : c % 128 = c := Nat.mod_eq_of_lt (by omega)
        rw [hcm] at h1
        have hlt : acc + c * P < 18446744073709551616 := by
          rcases Nat.lt_or_ge k 9 with h9 | h9
          · have := hP8 (by omega)
            have : c * P ≤ 127 * P := Nat.mul_le_mul_right P (by omega)
            omega
          · have hc1 : c ≤ 1 := by omega
            have : c * P ≤ 1 * P := Nat.mul_le_mul_right P hc1
            omega
        rw [Nat.mod_eq_of_lt hlt] at h1
        refine ⟨c, h1.symm, ?_, by omega, by omega⟩
        rw [← h2, show k + 1 - k = 1 by omega, venc_lt (by omega)]
        rfl
    · rw [if_neg h128] at h
      have hk8 : k ≤ 8 := by
        rcases Nat.lt_or_ge k 9 with h9 | h9
        · omega
        · exfalso
          obtain rfl : k = 9 := by omega
          rw [numR_10] at h
          cases h
      have hP8 := hP8 hk8
      have hcl : c % 128 * P ≤ 127 * P := Nat.mul_le_mul_right P (by omega)
      have hPs : (128 : Nat) ^ (k + 1) = P * 128 := by rw [Nat.pow_succ, hP]
      rw [Nat.mod_eq_of_lt (by omega)] at h
      obtain ⟨y, e1, e2, e3, e4⟩ := ih (k + 1) _ x m hbt (by omega) (by rw [hPs]; omega) h
      rw [hPs] at e1
      have hy : 0 < y := by omega
      have hcb : c % 128 + 128 = c := by omega
      refine ⟨c % 128 + 128 * y, ?_, ?_, .inr (by omega), by omega⟩
      · have ey : y * (P * 128) = 128 * y * P := by rw [Nat.mul_comm P 128, ← Nat.mul_assoc, Nat.mul_comm y 128]
        rw [e1, ey, Nat.add_mul]
        omega
      · rw [venc_ge (by omega), show m - k = (m - (k + 1)) + 1 by omega, List.take_succ_cons, e2, show (c % 128 + 128 * y) % 128 + 128 = c by omega, show (c % 128 + 128 * y) / 128 = y by omega]
theorem numR_one {l : List Int} {x m : Nat} (hb : Bytes l) (h : numR l 0 0 = .ok x m) : l.take m = venc x := by
  obtain ⟨y, e1, e2, -, -⟩ := numR_back l 0 0 x m hb (by decide) (by decide) h
  have : x = y := by rw [e1]; simp
  rw [this, ← e2, Nat.sub_zero]

theorem badR_lt (l : List Int) : ∀ i, badR l = some i → i < l.length := by
  induction hn : l.length using Nat.strongRecOn generalizing l with
  | _ n ih =>
    intro i h
    by_cases h0 : l = []
    · rw [h0, badR_nil] at h; cases h
    · have hp := List.length_pos_iff.2 h0
      by_cases h1 : rn l = 0
      · rw [badR_bad h0 h1] at h
        injection h with h
        omega
      · rw [badR_go h0 h1] at h
        obtain ⟨j, hj, rfl⟩ := Option.map_eq_some_iff.1 h
        have hr := rn_le l
        have := ih (l.drop (rn l)).length (by rw [List.length_drop]; omega) (l.drop (rn l)) rfl j hj
        rw [List.length_drop] at this
        omega
theorem textR_ok {l : List Int} {n m : Nat} {most : Int} {s : List Int} (hb : Bytes l) (hn : n ≤ l.length) (h : textR l n most = .ok s m) : n ≤ m ∧ m ≤ l.length ∧ (l.drop n).take (m - n) = venc s.length ++ s ∧ s.length + (venc s.length).length ≤ l.length ∧ Bytes s := by
  unfold textR at h
  split at h
  · cases h
  · rcases hq : numR (l.drop n) 0 0 with ⟨x, k⟩ | _ | _
    · rw [hq] at h
      have hsz := numR_size _ _ _ _ _ hq
      have hbd : Bytes (l.drop n) := fun y hy => hb y (List.mem_of_mem_drop hy)
      have hone := numR_one hbd hq
      rw [List.length_drop] at hsz
      simp only [textQ] at h
      split at h
      · cases h
      · split at h
        · cases h
        · split at h
          · cases h
          · injection h with h1 h2
            have hsl : s.length = x := by rw [← h1, List.length_take, List.length_drop]; omega
            have hvl := congrArg List.length hone
            rw [List.length_take, List.length_drop] at hvl
            refine ⟨by omega, by omega, ?_, by rw [hsl]; omega, fun y hy => hb y (by rw [← h1] at hy; exact List.mem_of_mem_drop (List.mem_of_mem_take hy))⟩
            rw [← h2, show n + k + x - n = k + x by omega, List.take_add, hone, List.drop_drop, hsl, h1]
    · rw [hq] at h
      simp only [textQ] at h
      cases h
    · rw [hq] at h
      simp only [textQ] at h
      cases h
theorem cell_kept {w w' : World} (hk : Kept (fun _ => False) w w') {a : Addr} {u : Value} (h : w.cell? a = some u) : w'.cell? a = some u :=
  (World.cell?_of_block (hk.block a.block (World.block_lt_of_cell? w a h) (fun e => e))).trans h

theorem bytes_app {a b : List Int} (ha : Bytes a) (hb : Bytes b) : Bytes (a ++ b) := fun x hx => by
  rcases List.mem_append.1 hx with h | h
  · exact ha x h
  · exact hb x h
/-- '[]byte(s)': new bytes. -/
theorem bytes_conv {P : Program} {src dst e : TypeId} (w : World) (q : List Int) (hb : Bytes q) (hs : P.underlying src = some .string) (hd : P.underlying dst = some (.slice e)) (he : P.underlying e = some (.int .u8)) :
    ∃ C W2, (convert src dst (.string (strOfNums q))).run P w = .ok (.slice (some ⟨w.heap.size, 0, none⟩) q.length C) W2 ∧ Reads W2 (.slice (some ⟨w.heap.size, 0, none⟩) q.length C) q ∧ Kept (fun _ => False) w W2 := by
  have hcv := Lib.run_convert_string_bytes (P := P) w src dst e (strOfNums q) hs hd he
  rw [strOfNums_size] at hcv
  refine ⟨_, _, hcv, ⟨_, _, rfl, ⟨(fun h => by cases h), grownCap_ge _ _ _ _⟩, fun j u hu => ⟨_, rfl, ?_⟩⟩, ⟨?_, ?_, ?_, ?_, fun k hk _ => Lib.bytesWorld_at_old w e _ k hk⟩⟩
  · have hj : j < q.length := by
      rcases Nat.lt_or_ge j q.length with h' | h'
      · exact h'
      · rw [List.getElem?_eq_none (by rw [nums_length]; exact h')] at hu; cases hu
    have hadd : (⟨w.heap.size, 0, none⟩ : Addr).add j = ⟨w.heap.size, j, none⟩ := by unfold Addr.add; split <;> simp_all
    rw [hadd, Lib.bytesWorld_cell w e _ j (by rw [strOfNums_size]; exact hj), ← hu, nums_get .u8 q j hj, strOfNums_data]
    have h2 := hb.getD j hj
    congr 2
    simp [List.getD_eq_getElem?_getD, List.getElem?_eq_getElem hj] at h2 ⊢
    omega
  · unfold Lib.bytesWorld World.freeze; split <;> rfl
  · unfold Lib.bytesWorld World.freeze; split <;> rfl
  · unfold Lib.bytesWorld World.freeze; split <;> rfl
  · rw [Lib.bytesWorld_size]; omega

end Go.Proofs.YtlcbgklealipoaaGreatDoor
