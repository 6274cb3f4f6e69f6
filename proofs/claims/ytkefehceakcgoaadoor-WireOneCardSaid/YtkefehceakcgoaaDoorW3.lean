/- One form: what is read is written by just these bytes (plain); an ask's read, a writer's bytes (the walks). -/
import Derived.Test.YtkefehceakcgoaaDoorW2
namespace Go.Proofs.YtkefehceakcgoaaDoor
open Go.RowKit
set_option linter.unusedVariables false
set_option linter.unusedSimpArgs false

/-- A number that was read is written by just the bytes that it was read from. -/
theorem numR_back (l : List Int) : ∀ k acc x m, Bytes l → k ≤ 9 → acc < 128 ^ k → numR l k acc = .ok x m → ∃ y, x = acc + y * 128 ^ k ∧ l.take (m - k) = venc y ∧ (k = 0 ∨ 0 < y) ∧ k < m := by
  induction l with
  | nil => intro k acc x m _ _ _ h; unfold numR at h; split at h <;> cases h
  | cons b t ih =>
    intro k acc x m hb hk ha h
    have hb0 := hb b (List.mem_cons_self ..)
    have hbt : Bytes t := fun z hz => hb z (List.mem_cons_of_mem _ hz)
    unfold numR at h
    rw [if_neg (by omega)] at h
    obtain ⟨c, rfl⟩ : ∃ c : Nat, b = c := ⟨b.toNat, by omega⟩
    obtain ⟨P, hP⟩ : ∃ P, P = 128 ^ k := ⟨_, rfl⟩
    have hP1 : 1 ≤ P := by rw [hP]; exact Nat.pow_pos (by decide)
    have hP9 : P ≤ 9223372036854775808 := by rw [hP]; exact Nat.le_trans (Nat.pow_le_pow_right (by decide) hk) (by decide)
    have hP8 : k ≤ 8 → P ≤ 72057594037927936 := fun h8 => by rw [hP]; exact Nat.le_trans (Nat.pow_le_pow_right (by decide) h8) (by decide)
    rw [← hP] at ha h ⊢
    have hc : (c : Int).toNat = c := by omega
    rw [hc] at h
    by_cases h128 : (c : Int) < 128
    · rw [if_pos h128] at h
      by_cases hform : (k + 1 = 10 ∧ 1 < (c : Int)) ∨ (1 < k + 1 ∧ (c : Int) = 0)
      · rw [if_pos hform] at h; cases h
      · rw [if_neg hform] at h
        injection h with h1 h2
        have hcm : c % 128 = c := Nat.mod_eq_of_lt (by omega)
        rw [hcm] at h1
        have hlt : acc + c * P < 18446744073709551616 := by
          rcases Nat.lt_or_ge k 9 with h9 | h9
          · have := hP8 (by omega)
            have : c * P ≤ 127 * P := Nat.mul_le_mul_right P (by omega)
            omega
          · have hc1 : c ≤ 1 := by omega
            have : c * P ≤ 1 * P := Nat.mul_le_mul_right P hc1
            omega
        rw [Nat.mod_eq_of_lt hlt] at h1
        refine ⟨c, h1.symm, ?_, by omega, by omega⟩
        rw [← h2, show k + 1 - k = 1 by omega, venc_lt (by omega)]
        rfl
    · rw [if_neg h128] at h
      have hk8 : k ≤ 8 := by
        rcases Nat.lt_or_ge k 9 with h9 | h9
        · omega
        · exfalso
          obtain rfl : k = 9 := by omega
          rw [numR_10] at h
          cases h
      have hP8 := hP8 hk8
      have hcl : c % 128 * P ≤ 127 * P := Nat.mul_le_mul_right P (by omega)
      have hPs : (128 : Nat) ^ (k + 1) = P * 128 := by rw [Nat.pow_succ, hP]
      rw [Nat.mod_eq_of_lt (by omega)] at h
      obtain ⟨y, e1, e2, e3, e4⟩ := ih (k + 1) _ x m hbt (by omega) (by rw [hPs]; omega) h
      rw [hPs] at e1
      have hy : 0 < y := by omega
      have hcb : c % 128 + 128 = c := by omega
      refine ⟨c % 128 + 128 * y, ?_, ?_, .inr (by omega), by omega⟩
      · have ey : y * (P * 128) = 128 * y * P := by rw [Nat.mul_comm P 128, ← Nat.mul_assoc, Nat.mul_comm y 128]
        rw [e1, ey, Nat.add_mul]
        omega
      · rw [venc_ge (by omega), show m - k = (m - (k + 1)) + 1 by omega, List.take_succ_cons, e2, show (c % 128 + 128 * y) % 128 + 128 = c by omega, show (c % 128 + 128 * y) / 128 = y by omega]
theorem numR_one {l : List Int} {x m : Nat} (hb : Bytes l) (h : numR l 0 0 = .ok x m) : l.take m = venc x := by
  obtain ⟨y, e1, e2, -, -⟩ := numR_back l 0 0 x m hb (by decide) (by decide) h
  have : x = y := by rw [e1]; simp
  rw [this, ← e2, Nat.sub_zero]

/-- What is asked next. -/
structure Ask where
  k : Int
  n : Int
def Ask.cells (q : Ask) : List Value := [.int .i64 q.k, .int .i64 q.n]
structure Ask.ok (q : Ask) : Prop where
  k0 : -9223372036854775808 ≤ q.k
  k1 : q.k < 9223372036854775808
  n0 : -9223372036854775808 ≤ q.n
  n1 : q.n < 9223372036854775808
inductive ARes where
  | ok (u : Nat) (i : Int) (s : List Int) (m : Nat)
  | err (a no : Int)
def readR (l : List Int) (n : Nat) (q : Ask) : ARes :=
  if pickN q.k 3 = 0 then (match numR (l.drop n) 0 0 with | .ok x k => .ok x 0 [] (n + k) | .form => .err n 12 | .fin => .err l.length 11)
  else if pickN q.k 3 = 1 then (match numR (l.drop n) 0 0 with | .ok x k => .ok 0 (zag x) [] (n + k) | .form => .err n 12 | .fin => .err l.length 11)
  else match textR l n q.n with | .ok s m => .ok 0 0 s m | .err a no => .err a no
def ReadPost (B r n : Nat) (v : Value) (l : List Int) (q : Ask) (w : World) (e : Ending) (w' : World) : Prop :=
  match readR l n q with
  | .ok u i s m => e = .returned (.tuple #[.int .u64 u, .int .i64 i, .string (strOfNums s), .nilIface]) ∧ RdAt B w' r v l m ∧ Kept (fun i => i = r) w w'
  | .err a no => ∃ err, e = .returned (.tuple #[.int .u64 0, .int .i64 0, .string ⟨#[]⟩, err]) ∧ ErrPost a no w err w'
theorem badR_lt (l : List Int) : ∀ i, badR l = some i → i < l.length := by
  induction hn : l.length using Nat.strongRecOn generalizing l with
  | _ n ih =>
    intro i h
    by_cases h0 : l = []
    · rw [h0, badR_nil] at h; cases h
    · have hp := List.length_pos_iff.2 h0
      by_cases h1 : rn l = 0
      · rw [badR_bad h0 h1] at h
        injection h with h
        omega
      · rw [badR_go h0 h1] at h
        obtain ⟨j, hj, rfl⟩ := Option.map_eq_some_iff.1 h
        have hr := rn_le l
        have := ih (l.drop (rn l)).length (by rw [List.length_drop]; omega) (l.drop (rn l)) rfl j hj
        rw [List.length_drop] at this
        omega
/-- Where nothing is read: the place, and a number that is none of OK's. -/
theorem textR_err {l : List Int} {n : Nat} {most a no : Int} (hn : n ≤ l.length) (h : textR l n most = .err a no) : (n : Int) ≤ a ∧ a ≤ l.length ∧ (no = 1 ∨ no = 11 ∨ no = 12 ∨ no = 13 ∨ no = 14) := by
  unfold textR at h
  split at h
  · injection h with h1 h2; omega
  · rcases hq : numR (l.drop n) 0 0 with ⟨x, k⟩ | _ | _
    · rw [hq] at h
      have hsz := numR_size _ _ _ _ _ hq
      rw [List.length_drop] at hsz
      simp only [textQ] at h
      split at h
      · injection h with h1 h2; omega
      · split at h
        · injection h with h1 h2; omega
        · split at h
          · rename_i i hi
            have := badR_lt _ _ hi
            rw [List.length_take, List.length_drop] at this
            injection h with h1 h2
            omega
          · cases h
    · rw [hq] at h
      simp only [textQ] at h
      injection h with h1 h2; omega
    · rw [hq] at h
      simp only [textQ] at h
      injection h with h1 h2; omega
theorem readR_err {l : List Int} {n : Nat} {q : Ask} {a no : Int} (hn : n ≤ l.length) (h : readR l n q = .err a no) : (n : Int) ≤ a ∧ a ≤ l.length ∧ (no = 1 ∨ no = 11 ∨ no = 12 ∨ no = 13 ∨ no = 14) := by
  unfold readR at h
  split at h
  · split at h
    · cases h
    · injection h with h1 h2; omega
    · injection h with h1 h2; omega
  · split at h
    · split at h
      · cases h
      · injection h with h1 h2; omega
      · injection h with h1 h2; omega
    · split at h
      · cases h
      · rename_i a' no' he
        injection h with h1 h2
        subst h1 h2
        exact textR_err hn he
/-- What a writer lays down for what was read. -/
def bytesR (kind : Nat) (u : Nat) (i : Int) (s : List Int) : List Int := if kind = 0 then venc u else if kind = 1 then venc (zig i).toNat else venc s.length ++ s
theorem textR_ok {l : List Int} {n m : Nat} {most : Int} {s : List Int} (hb : Bytes l) (hn : n ≤ l.length) (h : textR l n most = .ok s m) : n ≤ m ∧ m ≤ l.length ∧ (l.drop n).take (m - n) = venc s.length ++ s ∧ s.length + (venc s.length).length ≤ l.length ∧ Bytes s := by
  unfold textR at h
  split at h
  · cases h
  · rcases hq : numR (l.drop n) 0 0 with ⟨x, k⟩ | _ | _
    · rw [hq] at h
      have hsz := numR_size _ _ _ _ _ hq
      have hbd : Bytes (l.drop n) := fun y hy => hb y (List.mem_of_mem_drop hy)
      have hone := numR_one hbd hq
      rw [List.length_drop] at hsz
      simp only [textQ] at h
      split at h
      · cases h
      · split at h
        · cases h
        · split at h
          · cases h
          · injection h with h1 h2
            have hsl : s.length = x := by rw [← h1, List.length_take, List.length_drop]; omega
            have hvl := congrArg List.length hone
            rw [List.length_take, List.length_drop] at hvl
            refine ⟨by omega, by omega, ?_, by rw [hsl]; omega, fun y hy => hb y (by rw [← h1] at hy; exact List.mem_of_mem_drop (List.mem_of_mem_take hy))⟩
            rw [← h2, show n + k + x - n = k + x by omega, List.take_add, hone, List.drop_drop, hsl, h1]
    · rw [hq] at h
      simp only [textQ] at h
      cases h
    · rw [hq] at h
      simp only [textQ] at h
      cases h
theorem readR_ok {l : List Int} {n m u : Nat} {i : Int} {s : List Int} {q : Ask} (hb : Bytes l) (hn : n ≤ l.length) (h : readR l n q = .ok u i s m) :
    n ≤ m ∧ m ≤ l.length ∧ (l.drop n).take (m - n) = bytesR (pickN q.k 3) u i s ∧ u < 18446744073709551616 ∧ -9223372036854775808 ≤ i ∧ i < 9223372036854775808 ∧ Bytes s ∧ s.length ≤ l.length := by
  have hbd : Bytes (l.drop n) := fun y hy => hb y (List.mem_of_mem_drop hy)
  unfold readR at h
  unfold bytesR
  split at h
  · rename_i hk
    rw [if_pos hk]
    rcases hq : numR (l.drop n) 0 0 with ⟨x, k⟩ | _ | _
    · rw [hq] at h
      have hsz := numR_size _ _ _ _ _ hq
      have hx := numR_lt _ _ _ _ _ hq
      rw [List.length_drop] at hsz
      injection h with h1 h2 h3 h4
      subst h1 h2 h3 h4
      refine ⟨by omega, by omega, ?_, hx, by omega, by omega, fun y hy => (by cases hy), by simp⟩
      rw [show n + k - n = k by omega]
      exact numR_one hbd hq
    · rw [hq] at h; cases h
    · rw [hq] at h; cases h
  · rename_i hk
    rw [if_neg hk]
    split at h
    · rename_i hk1
      rw [if_pos hk1]
      rcases hq : numR (l.drop n) 0 0 with ⟨x, k⟩ | _ | _
      · rw [hq] at h
        have hsz := numR_size _ _ _ _ _ hq
        have hx := numR_lt _ _ _ _ _ hq
        rw [List.length_drop] at hsz
        injection h with h1 h2 h3 h4
        subst h1 h2 h3 h4
        have hz := zag_range x (by omega) (by omega)
        refine ⟨by omega, by omega, ?_, by omega, hz.1, hz.2, fun y hy => (by cases hy), by simp⟩
        rw [show n + k - n = k by omega, zigzag x (by omega), Int.toNat_natCast]
        exact numR_one hbd hq
      · rw [hq] at h; cases h
      · rw [hq] at h; cases h
    · rename_i hk1
      rw [if_neg hk1]
      rcases hq : textR l n q.n with ⟨s', m'⟩ | ⟨a, no⟩
      · rw [hq] at h
        injection h with h1 h2 h3 h4
        subst h1 h2 h3 h4
        have := textR_ok hb hn hq
        exact ⟨this.1, this.2.1, this.2.2.1, by omega, by omega, by omega, this.2.2.2.2, by omega⟩
      · rw [hq] at h; cases h
end Go.Proofs.YtkefehceakcgoaaDoor
