/- The document's sum (a division of polynomials, coefficient by coefficient) is the table's sum: plain Lean. -/
import Derived.Test.YtoolimfdncfgnaaA2
namespace Go.Proofs.Ytoolimfdncfgnaa
open Go.RowKit
set_option linter.unusedVariables false
set_option linter.unusedSimpArgs false

def stepS (rest b : Nat) : Nat := if 2147483648 ≤ rest then ((2 * rest + b) % 4294967296) ^^^ 517762881 else (2 * rest + b) % 4294967296
def bitS (l : List Int) (i : Nat) : Nat := if i / 8 < l.length then (l.getD (i / 8) 0).toNat / 2 ^ (i % 8) % 2 else 0
def turnS (n : Nat) : Nat → Nat
  | 0 => 0
  | i + 1 => 2 * turnS n i + n / 2 ^ i % 2
def coef (state : Nat) (l : List Int) (i : Nat) : Nat := if i < 32 then bitS l i ^^^ (state / 2 ^ i % 2) else bitS l i
def restS (state : Nat) (l : List Int) : Nat → Nat
  | 0 => 0
  | i + 1 => stepS (restS state l i) (coef state l i)
def refMore (sum : Nat) (l : List Int) : Nat := 4294967295 ^^^ turnS (restS (4294967295 ^^^ sum) l (8 * l.length + 32)) 32

theorem bitS_lt (l : List Int) (i : Nat) : bitS l i < 2 := by unfold bitS; split <;> omega
theorem two_cases {b : Nat} (h : b < 2) : b = 0 ∨ b = 1 := by omega
theorem coef_lt (state : Nat) (l : List Int) (i : Nat) : coef state l i < 2 := by
  unfold coef
  have h1 := bitS_lt l i
  have h2 : state / 2 ^ i % 2 < 2 := Nat.mod_lt _ (by decide)
  split
  · rcases two_cases h1 with e | e <;> rcases two_cases h2 with f | f <;> rw [e, f] <;> decide
  · exact h1
theorem stepS_lt {r b : Nat} (hr : r < 4294967296) : stepS r b < 4294967296 := by
  unfold stepS
  have : (2 * r + b) % 4294967296 < 4294967296 := Nat.mod_lt _ (by decide)
  split
  · exact xor32_lt this (by decide)
  · exact this
theorem restS_lt (state : Nat) (l : List Int) : ∀ i, restS state l i < 4294967296 := by
  intro i
  induction i with
  | zero => exact (by decide : (0 : Nat) < 4294967296)
  | succ i ih => exact stepS_lt ih

/-! ### bits -/
theorem bit_of_mod {n i : Nat} : n / 2 ^ i % 2 = (n.testBit i).toNat := by
  rw [Nat.testBit_eq_decide_div_mod_eq]
  have : n / 2 ^ i % 2 < 2 := Nat.mod_lt _ (by decide)
  rcases two_cases this with e | e <;> rw [e] <;> rfl
theorem turnS_lt (n : Nat) : ∀ i, turnS n i < 2 ^ i := by
  intro i
  induction i with
  | zero => exact (by decide : (0 : Nat) < 1)
  | succ i ih =>
    have : n / 2 ^ i % 2 < 2 := Nat.mod_lt _ (by decide)
    rw [turnS, Nat.pow_succ]; omega
theorem testBit_two (r b k : Nat) (hb : b < 2) : (2 * r + b).testBit k = if k = 0 then decide (b = 1) else r.testBit (k - 1) := by
  cases k with
  | zero => simp [Nat.testBit_zero]; omega
  | succ k => rw [Nat.testBit_succ, show (2 * r + b) / 2 = r by omega]; simp
theorem turnS_bit (n : Nat) : ∀ i k, k < i → (turnS n i).testBit k = n.testBit (i - 1 - k) := by
  intro i
  induction i with
  | zero => intro k h; omega
  | succ i ih =>
    intro k h
    rw [turnS, testBit_two _ _ _ (Nat.mod_lt _ (by decide))]
    cases k with
    | zero => simp [Nat.testBit_eq_decide_div_mod_eq]
    | succ k => simp only [Nat.add_sub_cancel, Nat.succ_ne_zero, if_false]; rw [ih k (by omega)]; congr 1; omega
theorem eq_of_bits {a b : Nat} (ha : a < 4294967296) (hb : b < 4294967296) (h : ∀ k, k < 32 → a.testBit k = b.testBit k) : a = b := by
  refine Nat.eq_of_testBit_eq fun k => ?_
  by_cases hk : k < 32
  · exact h k hk
  · have e : (4294967296 : Nat) = 2 ^ 32 := by decide
    have hp : 2 ^ 32 ≤ 2 ^ k := Nat.pow_le_pow_right (by decide) (by omega)
    rw [Nat.testBit_lt_two_pow (by omega), Nat.testBit_lt_two_pow (by omega)]
theorem bstep_bit (c k : Nat) : (bstep c).testBit k = (c.testBit (k + 1) ^^ (c.testBit 0 && (2197175160 : Nat).testBit k)) := by
  unfold bstep
  have h0 : c.testBit 0 = decide (c % 2 = 1) := Nat.testBit_zero c
  split
  · rename_i h
    rw [Nat.testBit_xor, ← Nat.testBit_succ, h0, decide_eq_true h]; simp
  · rename_i h
    rw [← Nat.testBit_succ, h0, decide_eq_false h]; simp

/-- The rest, turned: a shift register of the other direction. -/
def revS (state : Nat) (l : List Int) : Nat → Nat
  | 0 => 0
  | i + 1 => bstep (revS state l i) ^^^ (coef state l i * 2147483648)
theorem revS_lt (state : Nat) (l : List Int) : ∀ i, revS state l i < 4294967296 := by
  intro i
  induction i with
  | zero => exact (by decide : (0 : Nat) < 4294967296)
  | succ i ih =>
    have := coef_lt state l i
    exact xor32_lt (bstep_lt ih) (by omega)
theorem top_bit (b k : Nat) (hb : b < 2) (hk : k < 32) : (b * 2147483648).testBit k = (decide (k = 31) && decide (b = 1)) := by
  rcases two_cases hb with rfl | rfl
  · simp
  · rw [Nat.one_mul, show (2147483648 : Nat) = 2 ^ 31 by decide, Nat.testBit_two_pow]; simp [eq_comm]
theorem poly_bits : ∀ k, k < 32 → (517762881 : Nat).testBit (31 - k) = (2197175160 : Nat).testBit k := by decide
theorem step_bits {r b : Nat} (hr : r < 4294967296) (hb : b < 2) (i : Nat) (hi : i < 32) :
    (stepS r b).testBit i = ((if i = 0 then decide (b = 1) else r.testBit (i - 1)) ^^ (r.testBit 31 && (517762881 : Nat).testBit i)) := by
  have htop : r.testBit 31 = decide (2147483648 ≤ r) := by
    rw [Nat.testBit_eq_decide_div_mod_eq, show (2 : Nat) ^ 31 = 2147483648 by decide]
    congr 1
    apply propext
    omega
  have hm : ((2 * r + b) % 4294967296).testBit i = if i = 0 then decide (b = 1) else r.testBit (i - 1) := by
    rw [show (4294967296 : Nat) = 2 ^ 32 by decide, Nat.testBit_mod_two_pow, decide_eq_true hi, Bool.true_and, testBit_two _ _ _ hb]
  unfold stepS
  rw [htop]
  split
  · rename_i h
    rw [Nat.testBit_xor, hm, decide_eq_true h]; simp
  · rename_i h
    rw [hm, decide_eq_false h]; simp
theorem rev_bits (state : Nat) (l : List Int) : ∀ i k, k < 32 → (revS state l i).testBit k = (restS state l i).testBit (31 - k) := by
  intro i
  induction i with
  | zero => intro k hk; simp [revS, restS]
  | succ i ih =>
    intro k hk
    have hc := coef_lt state l i
    rw [revS, restS, Nat.testBit_xor, bstep_bit, top_bit _ _ hc hk, step_bits (restS_lt _ _ _) hc _ (by omega), poly_bits k hk]
    rw [ih 0 (by omega)]
    by_cases h31 : k = 31
    · subst h31
      have hz : (revS state l i).testBit 32 = false := Nat.testBit_lt_two_pow (by have := revS_lt state l i; simpa using this)
      rw [hz]
      simp [Bool.xor_comm]
    · rw [ih (k + 1) (by omega), if_neg (by omega), show 31 - (k + 1) = 31 - k - 1 by omega]
      simp [h31]
theorem turned_rest (state : Nat) (l : List Int) (i : Nat) : turnS (restS state l i) 32 = revS state l i := by
  refine eq_of_bits (by have := turnS_lt (restS state l i) 32; simpa using this) (revS_lt _ _ _) fun k hk => ?_
  rw [turnS_bit _ 32 k hk, rev_bits state l i k hk]

/-! ### the register that takes its bits at the other end -/
def sBit (state : Nat) (l : List Int) : Nat → Nat
  | 0 => state
  | j + 1 => bstep (sBit state l j ^^^ bitS l j)
theorem first_bits (state : Nat) (l : List Int) : ∀ i, i ≤ 32 → ∀ k, k < 32 → (revS state l i).testBit k = (decide (32 - i ≤ k) && decide (coef state l (k - (32 - i)) = 1)) := by
  intro i
  induction i with
  | zero => intro h k hk; simp [revS]; omega
  | succ i ih =>
    intro h k hk
    have hc := coef_lt state l i
    rw [revS, Nat.testBit_xor, bstep_bit, top_bit _ _ hc hk, ih (by omega) 0 (by omega)]
    rw [show decide (32 - i ≤ 0) = false from decide_eq_false (by omega)]
    by_cases h31 : k = 31
    · subst h31
      have hz : (revS state l i).testBit 32 = false := Nat.testBit_lt_two_pow (by have := revS_lt state l i; simpa using this)
      rw [hz, show 31 - (32 - (i + 1)) = i by omega, show decide (32 - (i + 1) ≤ 31) = true from decide_eq_true (by omega)]
      simp
    · rw [ih (by omega) (k + 1) (by omega), show k + 1 - (32 - i) = k - (32 - (i + 1)) by omega]
      simp [h31]
      congr 1
      exact decide_eq_decide.2 (by omega)
theorem bstep_xor (a b : Nat) (ha : a < 4294967296) (hb : b < 4294967296) : bstep (a ^^^ b) = bstep a ^^^ bstep b := by
  refine eq_of_bits (bstep_lt (xor32_lt ha hb)) (xor32_lt (bstep_lt ha) (bstep_lt hb)) fun k hk => ?_
  simp only [bstep_bit, Nat.testBit_xor]
  cases a.testBit 0 <;> cases b.testBit 0 <;> cases a.testBit (k + 1) <;> cases b.testBit (k + 1) <;> cases (2197175160 : Nat).testBit k <;> rfl
theorem sBit_lt {state : Nat} (hs : state < 4294967296) (l : List Int) : ∀ j, sBit state l j < 4294967296 := by
  intro j
  induction j with
  | zero => exact hs
  | succ j ih => exact bstep_lt (xor32_lt ih (by have := bitS_lt l j; omega))
theorem bitS_eq (l : List Int) (j : Nat) : bitS l j = (decide (bitS l j = 1)).toNat := by
  rcases two_cases (bitS_lt l j) with e | e <;> rw [e] <;> rfl
theorem queue (state : Nat) (hs : state < 4294967296) (l : List Int) : ∀ j, ∃ q, q < 4294967296 ∧ (∀ k, k < 32 → q.testBit k = decide (bitS l (j + k) = 1)) ∧ revS state l (32 + j) = sBit state l j ^^^ q := by
  intro j
  induction j with
  | zero =>
    refine ⟨revS state l 32 ^^^ state, xor32_lt (revS_lt _ _ _) hs, fun k hk => ?_, ?_⟩
    · rw [Nat.testBit_xor, first_bits state l 32 (Nat.le_refl _) k hk, Nat.zero_add]
      rw [show decide (32 - 32 ≤ k) = true from decide_eq_true (by omega), show k - (32 - 32) = k by omega, Bool.true_and]
      unfold coef
      rw [if_pos hk, bit_of_mod]
      rcases two_cases (bitS_lt l k) with e | e <;> rw [e] <;> cases state.testBit k <;> rfl
    · show revS state l 32 = state ^^^ (revS state l 32 ^^^ state)
      rw [Nat.xor_comm (revS state l 32), ← Nat.xor_assoc, Nat.xor_self, Nat.zero_xor]
  | succ j ih =>
    obtain ⟨q, hq, hb, he⟩ := ih
    have hc := bitS_lt l (j + 32)
    have hcc : coef state l (32 + j) = bitS l (j + 32) := by unfold coef; rw [if_neg (by omega), Nat.add_comm]
    refine ⟨q / 2 ^^^ (bitS l (j + 32) * 2147483648), xor32_lt (by omega) (by omega), fun k hk => ?_, ?_⟩
    · rw [Nat.testBit_xor, ← Nat.testBit_succ, top_bit _ _ hc hk]
      by_cases h31 : k = 31
      · subst h31
        rw [show q.testBit (31 + 1) = false from Nat.testBit_lt_two_pow (by simpa using hq), show j + 1 + 31 = j + 32 by omega]
        simp
      · rw [hb (k + 1) (by omega), show j + (k + 1) = j + 1 + k by omega]
        simp [h31]
    · have hsj := sBit_lt hs l j
      have hm : bitS l j < 2 := bitS_lt l j
      rw [show 32 + (j + 1) = 32 + j + 1 by omega, revS, hcc, sBit, he]
      refine eq_of_bits (xor32_lt (bstep_lt (xor32_lt hsj hq)) (by omega)) (xor32_lt (bstep_lt (xor32_lt hsj (by omega))) (xor32_lt (by omega) (by omega))) fun k hk => ?_
      have h0 : q.testBit 0 = decide (bitS l j = 1) := hb 0 (by decide)
      have h1 : (bitS l j).testBit 0 = decide (bitS l j = 1) := by rcases two_cases hm with e | e <;> rw [e] <;> rfl
      have h2 : (bitS l j).testBit (k + 1) = false := by rw [Nat.testBit_succ, show bitS l j / 2 = 0 by omega]; simp
      simp only [bstep_bit, Nat.testBit_xor, ← Nat.testBit_succ, h0, h1, h2]
      cases (sBit state l j).testBit (k + 1) <;> cases q.testBit (k + 1) <;> cases (bitS l (j + 32) * 2147483648).testBit k <;> cases ((sBit state l j).testBit 0 ^^ decide (bitS l j = 1)) && (2197175160 : Nat).testBit k <;> rfl

/-! ### eight bits are a byte -/
theorem bsteps_xor (n : Nat) : ∀ a b, a < 4294967296 → b < 4294967296 → bsteps n (a ^^^ b) = bsteps n a ^^^ bsteps n b := by
  induction n with
  | zero => intro a b _ _; rfl
  | succ n ih => intro a b ha hb; simp only [bsteps]; first | rw [bstep_xor a b ha hb, ih _ _ (bstep_lt ha) (bstep_lt hb)] | rw [ih a b ha hb, bstep_xor _ _ (bsteps_lt n ha) (bsteps_lt n hb)]
theorem bstep_even (t : Nat) : bstep (2 * t) = t := by unfold bstep; rw [if_neg (by omega)]; omega
theorem split_low (y : Nat) : y = (y % 2) ^^^ (2 * (y / 2)) := by
  refine Nat.eq_of_testBit_eq fun k => ?_
  rw [Nat.testBit_xor]
  cases k with
  | zero => simp [Nat.testBit_zero]
  | succ k => rw [Nat.testBit_succ, Nat.testBit_succ, Nat.testBit_succ, show y % 2 / 2 = 0 by omega, show 2 * (y / 2) / 2 = y / 2 by omega]; simp
theorem bstep_pull (s y : Nat) (hs : s < 4294967296) (hy : y < 4294967296) : bstep (s ^^^ y) = bstep (s ^^^ y % 2) ^^^ y / 2 := by
  have h : s ^^^ y = (s ^^^ y % 2) ^^^ (2 * (y / 2)) := by rw [Nat.xor_assoc, ← split_low y]
  rw [h, bstep_xor _ _ (xor32_lt hs (by omega)) (by omega), bstep_even]
theorem nib_eq (s : Nat) (hs : s < 4294967296) : nib s = bsteps 4 s := by
  have h16 : s = (s % 16) ^^^ (16 * (s / 16)) := by
    have a := split_low s
    have b := split_low (s / 2)
    refine Nat.eq_of_testBit_eq fun k => ?_
    rw [Nat.testBit_xor, show (16 : Nat) = 2 ^ 4 by decide, Nat.testBit_mod_two_pow, Nat.testBit_two_pow_mul]
    by_cases hk : k < 4
    · rw [decide_eq_true hk, decide_eq_false (by omega : ¬ k ≥ 4)]; simp
    · rw [decide_eq_false hk, decide_eq_true (by omega : k ≥ 4), Nat.testBit_div_two_pow, show k - 4 + 4 = k by omega]; simp
  have h4 : ∀ t, bsteps 4 (16 * t) = t := fun t => by
    simp only [bsteps]
    rw [show 16 * t = 2 * (8 * t) by omega, bstep_even, show 8 * t = 2 * (4 * t) by omega, bstep_even, show 4 * t = 2 * (2 * t) by omega, bstep_even, bstep_even]
  have := bsteps_xor 4 (s % 16) (16 * (s / 16)) (by omega) (by omega)
  rw [← h16, h4] at this
  rw [this, nib, Nat.xor_comm]
theorem crcB_eq (s : Nat) (x : Int) (hs : s < 4294967296) (h0 : 0 ≤ x) (h1 : x < 256) : crcB s x = bsteps 8 (s ^^^ x.toNat) := by
  have h := xor32_lt hs (show x.toNat < 4294967296 by omega)
  rw [crcB, nib_eq _ h, nib_eq _ (bsteps_lt 4 h)]
  rfl
theorem eight (state : Nat) (hs : state < 4294967296) (l : List Int) (hb : Bytes l) (k : Nat) (hk : k < l.length) : ∀ i, i ≤ 8 →
    sBit state l (8 * k + i) ^^^ (l.getD k 0).toNat / 2 ^ i = bsteps i (sBit state l (8 * k) ^^^ (l.getD k 0).toNat) := by
  have hx := hb.getD k hk
  intro i
  induction i with
  | zero => intro _; simp [bsteps]
  | succ i ih =>
    intro hi
    have hbit : bitS l (8 * k + i) = (l.getD k 0).toNat / 2 ^ i % 2 := by
      unfold bitS
      rw [show (8 * k + i) / 8 = k by omega, show (8 * k + i) % 8 = i by omega, if_pos hk]
    have hy : (l.getD k 0).toNat / 2 ^ i < 4294967296 := Nat.lt_of_le_of_lt (Nat.div_le_self _ _) (by omega)
    show bstep (sBit state l (8 * k + i) ^^^ bitS l (8 * k + i)) ^^^ _ = bstep (bsteps i _)
    rw [← ih (by omega), bstep_pull _ _ (sBit_lt hs l _) hy, hbit, Nat.pow_succ, Nat.div_div_eq_div_mul]
theorem sBit_crc (state : Nat) (hs : state < 4294967296) (l : List Int) (hb : Bytes l) : ∀ k, k ≤ l.length → sBit state l (8 * k) = crc state (l.take k) := by
  intro k
  induction k with
  | zero => intro _; rfl
  | succ k ih =>
    intro hk
    have hx := hb.getD k (by omega)
    have h8 := eight state hs l hb k (by omega) 8 (Nat.le_refl _)
    rw [show (l.getD k 0).toNat / 2 ^ 8 = 0 from Nat.div_eq_of_lt (Nat.lt_of_lt_of_le (show (l.getD k 0).toNat < 256 by omega) (by decide)), Nat.xor_zero] at h8
    rw [show 8 * (k + 1) = 8 * k + 8 by omega, h8, ih (by omega), crc_take _ _ _ (by omega), crcB_eq _ _ (crc_lt hs (hb.take k)) hx.1 hx.2]
/-- The document's sum is the program's. -/
theorem refMore_eq (sum : Nat) (hs : sum < 4294967296) (l : List Int) (hb : Bytes l) : refMore sum l = more sum l := by
  have hst : 4294967295 ^^^ sum < 4294967296 := xor32_lt (by decide) hs
  obtain ⟨q, hq, hbits, he⟩ := queue (4294967295 ^^^ sum) hst l (8 * l.length)
  have hz : q = 0 := by
    refine eq_of_bits hq (by decide) fun k hk => ?_
    rw [hbits k hk, bitS, if_neg (by omega)]
    simp
  rw [refMore, more, turned_rest, Nat.add_comm, he, hz, Nat.xor_zero, sBit_crc _ hst l hb _ (Nat.le_refl _), List.take_length]
end Go.Proofs.Ytoolimfdncfgnaa
