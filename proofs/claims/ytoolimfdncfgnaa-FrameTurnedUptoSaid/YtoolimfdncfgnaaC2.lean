/- The document's sum: the walks. -/
import Derived.Test.YtoolimfdncfgnaaC1
namespace Go.Proofs.Ytoolimfdncfgnaa
open Go.RowKit
set_option linter.unusedVariables false
set_option linter.unusedSimpArgs false

theorem wrap32 (n : Nat) : IntKind.u32.wrap (n : Int) = ((n % 4294967296 : Nat) : Int) := by rw [IntKind.wrap_u32]; omega
set_option maxHeartbeats 2000000 in
theorem step_any (r b : Nat) (w : World) (hr : r < 4294967296) (hb : b < 2) :
    Calls Try.prog 44 #[.int .u32 r, .int .u32 b] w fun e w' => e = .returned (.int .u32 (stepS r b)) ∧ ∃ n, w' = w.drewN n := by
  go_enter Try.func44, Try.ntmps44
  have e1 : IntKind.u32.wrap (2 * (r : Int)) = ((2 * r % 4294967296 : Nat) : Int) := by rw [IntKind.wrap_u32]; omega
  have e2 : IntKind.u32.wrap (((2 * r % 4294967296 : Nat) : Int) + b) = (((2 * r + b) % 4294967296 : Nat) : Int) := by rw [IntKind.wrap_u32]; omega
  have e3 : bits .xor .u32 ((((2 * r + b) % 4294967296 : Nat) : Int)) 517762881 = ((((2 * r + b) % 4294967296) ^^^ 517762881 : Nat) : Int) := xor32 _ 517762881 (Nat.mod_lt _ (by decide)) (by decide)
  by_cases h : 2147483648 ≤ r
  · have h1 : (2147483648 : Int) ≤ r := by omega
    have hS : stepS r b = ((2 * r + b) % 4294967296) ^^^ 517762881 := if_pos h
    go_wp2_with fail
    go_ret
    refine ⟨ret_eq ?_, 0, rfl⟩
    rw [hS, show (2 * (r : Int) % 4294967296 + b) = (((2 * r + b) % 4294967296 : Nat) : Int) by omega, e3]
  · have h1 : ¬ (2147483648 : Int) ≤ r := by omega
    have hS : stepS r b = ((2 * r + b) % 4294967296) := if_neg h
    go_wp2_with fail
    go_ret
    refine ⟨ret_eq ?_, 0, rfl⟩
    omega
theorem shr_bit (n k : Nat) : ((n : Int) / 2 ^ k).tmod 2 = ((n / 2 ^ k % 2 : Nat) : Int) := by
  have e : (n : Int) / 2 ^ k = ((n / 2 ^ k : Nat) : Int) := by simp
  rw [e, Int.tmod_eq_emod_of_nonneg (Int.natCast_nonneg _)]; rfl
set_option maxHeartbeats 2000000 in
theorem turned_any (n : Nat) (w : World) (hn : n < 4294967296) :
    Calls Try.prog 45 #[.int .u32 n] w fun e w' => e = .returned (.int .u32 (turnS n 32)) ∧ ∃ m, w' = w.drewN m := by
  go_enter Try.func45, Try.ntmps45
  go_wp2_with fail
  go_loop [3, 4] (fun o i => ∃ k : Nat, i = .int .i64 k ∧ k ≤ 32 ∧ o = .int .u32 (turnS n k : Nat)) (fun _ i => 32 - (intOf i).toNat)
  case atStart => exact ⟨0, rfl, by omega, rfl⟩
  case round =>
    obtain ⟨k, rfl, hk, rfl⟩ := hrel
    by_cases h : k < 32
    · have h1 : (k : Int) < 32 := by omega
      have h2 : (0 : Int) ≤ k := by omega
      have h3 : ¬ (k : Int) < 0 := by omega
      go_wp2_with fail
      refine ⟨⟨k + 1, by congr 1, by omega, ?_⟩, by simp [intOf]; omega⟩
      congr 1
      have ht := turnS_lt n k
      have hp : (2 : Nat) ^ k ≤ 2 ^ 31 := Nat.pow_le_pow_right (by decide) (by omega)
      rw [shr_bit, turnS]
      have hb : n / 2 ^ k % 2 < 2 := Nat.mod_lt _ (by decide)
      have h31 : (2 : Nat) ^ 31 = 2147483648 := by decide
      generalize n / 2 ^ k % 2 = b at *
      omega
    · obtain rfl : k = 32 := by omega
      go_wp2_with fail
      go_ret
      exact ⟨rfl, 0, rfl⟩

/-- One coefficient of bytes. -/
theorem bit_pos (A : Addr) (c : Nat) (l : List Int) (i : Nat) (w : World) (hb : Bytes l) (hl : l.length ≤ 1152921504606846975) (hi : i < 9223372036854775807)
    (hc : ∀ j, j < l.length → w.cell? (A.add j) = some (.int .u8 (l.getD j 0))) :
    Calls Try.prog 43 #[.slice (some A) l.length c, .int .i64 i] w fun e w' => e = .returned (.int .u32 (bitS l i)) ∧ ∃ m, w' = w.drewN m := by
  go_enter Try.func43, Try.ntmps43
  have i1 : (i : Int).tdiv 8 = ((i / 8 : Nat) : Int) := by rw [Int.tdiv_eq_ediv_of_nonneg (by omega)]; rfl
  have i2 : (i : Int).tmod 8 = ((i % 8 : Nat) : Int) := by rw [Int.tmod_eq_emod_of_nonneg (by omega)]; rfl
  by_cases h : i / 8 < l.length
  · have hS : bitS l i = (l.getD (i / 8) 0).toNat / 2 ^ (i % 8) % 2 := if_pos h
    have hx := hb.getD _ h
    have c0 := hc _ h
    obtain ⟨x, hx0⟩ : ∃ x : Nat, l.getD (i / 8) 0 = x := ⟨_, (Int.toNat_of_nonneg hx.1).symm⟩
    rw [hx0] at c0 hS hx
    have h1 : ((i / 8 : Nat) : Int) < l.length := by omega
    have h2 : ¬ (l.length : Int) ≤ ((i / 8 : Nat) : Int) := by omega
    have h3 : (0 : Int) ≤ ((i / 8 : Nat) : Int) := by omega
    clear hc
    go_wp2_with fail
    go_ret
    refine ⟨ret_eq ?_, 0, rfl⟩
    try rw [hS]
    simp
  · have hS : bitS l i = 0 := if_neg h
    have h2 : (l.length : Int) ≤ ((i / 8 : Nat) : Int) := by omega
    clear hc
    go_wp2_with fail
    go_ret
    exact ⟨ret_eq (by rw [hS]; rfl), 0, rfl⟩
theorem bit_nil (A : Option Addr) (c : Nat) (i : Nat) (w : World) (hi : i < 9223372036854775807) :
    Calls Try.prog 43 #[.slice A 0 c, .int .i64 i] w fun e w' => e = .returned (.int .u32 0) ∧ ∃ m, w' = w.drewN m := by
  go_enter Try.func43, Try.ntmps43
  have i1 : (i : Int).tdiv 8 = ((i / 8 : Nat) : Int) := by rw [Int.tdiv_eq_ediv_of_nonneg (by omega)]; rfl
  have h2 : (0 : Int) ≤ ((i / 8 : Nat) : Int) := by omega
  go_wp2_with fail
  go_ret
  exact ⟨rfl, 0, rfl⟩
theorem bit_any (v : Value) (l : List Int) (i : Nat) (w : World) (hb : Bytes l) (hl : l.length ≤ 1152921504606846975) (hi : i < 9223372036854775807) (hr : Reads w v l) :
    Calls Try.prog 43 #[v, .int .i64 i] w fun e w' => e = .returned (.int .u32 (bitS l i)) ∧ ∃ m, w' = w.drewN m := by
  obtain ⟨A, c, rfl, ⟨h0, hle⟩, hc⟩ := hr
  rcases Nat.eq_zero_or_pos l.length with h | h
  · obtain rfl : l = [] := List.eq_nil_of_length_eq_zero h
    exact bit_nil A c i w hi
  · obtain ⟨a, rfl⟩ : ∃ a, A = some a := by
      obtain ⟨a, e, _⟩ := hc 0 _ (nums_get .u8 l 0 h)
      exact ⟨a, e⟩
    refine bit_pos a c l i w hb hl hi fun j hj => ?_
    obtain ⟨a', e, h⟩ := hc j _ (nums_get .u8 l j hj)
    injection e with e
    subst e
    exact h

set_option maxHeartbeats 4000000 in
theorem refMore_any (sum : Nat) (v : Value) (l : List Int) (w : World) (hs : sum < 4294967296) (hb : Bytes l) (hl : l.length ≤ 4294967296) (hr : Reads w v l) :
    Calls Try.prog 33 #[.int .u32 sum, v] w fun e w' => e = .returned (.int .u32 (more sum l)) ∧ Kept (fun _ => False) w w' := by
  rw [← refMore_eq sum hs l hb]
  unfold refMore
  obtain ⟨A, c, hv, _⟩ := id hr
  have HR := Lib.hid hr
  clear hr
  rw [hv] at HR ⊢
  clear hv v
  go_enter Try.func33, Try.ntmps33
  have hx : bits .xor .u32 IntKind.u32.max (sum : Int) = ((4294967295 ^^^ sum : Nat) : Int) := xor32 4294967295 sum (by decide) hs
  have hs0 : 4294967295 ^^^ sum < 4294967296 := xor32_lt (by decide) hs
  go_wp2_with fail
  clear hx
  generalize hst : 4294967295 ^^^ sum = st at *
  have HST := Lib.hid hst
  clear hst
  have HB := Lib.hid (fun (wr : World) (m i : Nat) (e : wr = w.drewN m) (hi : i < 9223372036854775807) => bit_any _ l i wr hb (by omega) hi (HR.out.kept (e ▸ Kept.drewN (fun _ => False) w m)))
  go_loopw [6, 7] (fun r i wr => (∃ k : Nat, i = .int .i64 k ∧ k ≤ 8 * l.length + 32 ∧ r = .int .u32 (restS st l k : Nat)) ∧ ∃ m, wr = w.drewN m) (fun _ i _ => 8 * l.length + 32 - (intOf i).toNat)
  case atStart => exact ⟨⟨0, rfl, by omega, rfl⟩, 0, rfl⟩
  case round =>
    obtain ⟨⟨k, rfl, hk, rfl⟩, m, rfl⟩ := hrel
    by_cases h : k < 8 * l.length + 32
    · have h1 : (k : Int) < 8 * l.length + 32 := by omega
      have h2 : (0 : Int) ≤ k := by omega
      have h3 : ¬ (k : Int) < 0 := by omega
      have hr0 := restS_lt st l k
      go_wp2_with fail
      refine (HB.out _ m k rfl (by omega)).mono ?_
      rintro e w1 ⟨rfl, n1, rfl⟩
      have hb2 := bitS_lt l k
      by_cases h32 : k < 32
      · have h4 : (k : Int) < 32 := by omega
        have hco : coef st l k = bitS l k ^^^ (st / 2 ^ k % 2) := if_pos h32
        have hxx : bits .xor .u32 (bitS l k : Int) (((st : Int) / 2 ^ k).tmod 2) = ((coef st l k : Nat) : Int) := by
          rw [shr_bit, hco]
          exact xor32 _ _ (by omega) (Nat.lt_of_lt_of_le (Nat.mod_lt _ (by decide)) (by decide))
        have HCO := Lib.hid hco
        clear hco
        go_wp2_with fail
        refine (step_any _ _ _ hr0 (coef_lt st l k)).mono ?_
        rintro e w2 ⟨rfl, n2, rfl⟩
        have HE := Lib.hid (show stepS (restS st l k) (coef st l k) = restS st l (k + 1) from rfl)
        go_wp2_with fail
        exact ⟨⟨⟨k + 1, by congr 1, by omega, by rw [HE.out]⟩, _, rfl⟩, by simp [intOf]; omega⟩
      · have h4 : ¬ (k : Int) < 32 := by omega
        have HCO := Lib.hid (show coef st l k = bitS l k from if_neg h32)
        go_wp2_with fail
        rw [← HCO.out]
        refine (step_any _ _ _ hr0 (coef_lt st l k)).mono ?_
        rintro e w2 ⟨rfl, n2, rfl⟩
        have HE := Lib.hid (show stepS (restS st l k) (coef st l k) = restS st l (k + 1) from rfl)
        go_wp2_with fail
        exact ⟨⟨⟨k + 1, by congr 1, by omega, by rw [HE.out]⟩, _, rfl⟩, by simp [intOf]; omega⟩
    · obtain rfl : k = 8 * l.length + 32 := by omega
      go_wp2_with fail
      refine (turned_any _ _ (restS_lt st l _)).mono ?_
      rintro e w1 ⟨rfl, n1, rfl⟩
      have htl : turnS (restS st l (8 * l.length + 32)) 32 < 4294967296 := by have := turnS_lt (restS st l (8 * l.length + 32)) 32; simpa using this
      have HKT := Lib.hid (fun t => Kept.drewN (fun _ => False) w t)
      generalize htt : turnS (restS st l (8 * l.length + 32)) 32 = t at *
      have HTT := Lib.hid htt
      clear htt
      have hxx : bits .xor .u32 IntKind.u32.max (t : Int) = ((4294967295 ^^^ t : Nat) : Int) := xor32 4294967295 t (by decide) htl
      go_wp2_with fail
      exact bodyPost_ret (v := .int .u32 (4294967295 ^^^ t : Nat)) (by simp [results, Try.results33, go_sem]) rfl ⟨ret_eq (by rw [HST.out, HTT.out]), HKT.out _⟩
theorem refSum_any (v : Value) (l : List Int) (w : World) (hb : Bytes l) (hl : l.length ≤ 4294967296) (hr : Reads w v l) :
    Calls Try.prog 32 #[v] w fun e w' => e = .returned (.int .u32 (sumS l)) ∧ Kept (fun _ => False) w w' := by
  have HM := Lib.hid (refMore_any 0 v l w (by decide) hb hl hr)
  go_enter Try.func32, Try.ntmps32
  go_wp2_with fail
  refine HM.out.mono ?_
  rintro e w1 ⟨rfl, hk⟩
  go_wp2_with fail
  go_ret
  exact ⟨rfl, hk⟩
end Go.Proofs.Ytoolimfdncfgnaa
