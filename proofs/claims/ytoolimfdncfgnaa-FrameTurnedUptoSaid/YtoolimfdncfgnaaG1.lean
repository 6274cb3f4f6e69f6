/- Bits that are turned within 32 that stand together: the sums differ (plain). -/
import Derived.Test.YtoolimfdncfgnaaC1
import Derived.Test.YtoolimfdncfgnaaF4
namespace Go.Proofs.Ytoolimfdncfgnaa
open Go.RowKit
set_option linter.unusedVariables false
set_option linter.unusedSimpArgs false

theorem bstep_zero {c : Nat} (hc : c < 4294967296) (h : bstep c = 0) : c = 0 := by
  unfold bstep at h
  split at h
  · have e : c / 2 = 2197175160 := by
      have := congrArg (· ^^^ 2197175160) h
      simpa [Nat.xor_assoc] using this
    omega
  · omega
theorem bsteps_succ' (n c : Nat) : bsteps (n + 1) c = bstep (bsteps n c) := rfl
theorem bsteps_front (n c : Nat) : bsteps (n + 1) c = bsteps n (bstep c) := by
  induction n with
  | zero => rfl
  | succ n ih => rw [bsteps_succ', ih]; rfl
theorem bsteps_zero {n c : Nat} (hc : c < 4294967296) (h : bsteps n c = 0) : c = 0 := by
  induction n with
  | zero => exact h
  | succ n ih => rw [bsteps_succ'] at h; exact ih (bstep_zero (bsteps_lt n hc) h)
theorem bsteps_of_zero (n : Nat) : bsteps n 0 = 0 := by
  induction n with
  | zero => rfl
  | succ n ih => rw [bsteps_succ', ih]; rfl
/-- The difference of two registers that are fed otherwise. -/
def dBit (e : Nat → Nat) : Nat → Nat
  | 0 => 0
  | j + 1 => bstep (dBit e j ^^^ e j)
theorem dBit_none (e : Nat → Nat) (i : Nat) (h : ∀ j, j < i → e j = 0) : dBit e i = 0 := by
  induction i with
  | zero => rfl
  | succ i ih => rw [dBit, ih (fun j hj => h j (by omega)), h i (by omega)]; rfl
theorem dBit_lt (e : Nat → Nat) (he : ∀ j, e j < 2) : ∀ j, dBit e j < 4294967296 := by
  intro j
  induction j with
  | zero => exact (by decide : (0 : Nat) < 4294967296)
  | succ j ih => exact bstep_lt (xor32_lt ih (by have := he j; omega))
/-- A number that has these bits. -/
def word (e : Nat → Nat) (i : Nat) : Nat → Nat
  | 0 => 0
  | m + 1 => e i + 2 * word e (i + 1) m
theorem word_lt (e : Nat → Nat) (he : ∀ j, e j < 2) : ∀ m i, word e i m < 2 ^ m := by
  intro m
  induction m with
  | zero => intro i; exact (by decide : (0 : Nat) < 1)
  | succ m ih => intro i; have := he i; have := ih (i + 1); rw [word, Nat.pow_succ]; omega
theorem word_zero (e : Nat → Nat) : ∀ m i, word e i m = 0 → ∀ j, i ≤ j → j < i + m → e j = 0 := by
  intro m
  induction m with
  | zero => intro i _ j h1 h2; omega
  | succ m ih =>
    intro i h j h1 h2
    rw [word] at h
    rcases Nat.eq_or_lt_of_le h1 with rfl | h3
    · omega
    · exact ih (i + 1) (by omega) j (by omega) (by omega)
/-- The register takes a word in. -/
theorem dBit_word (e : Nat → Nat) (he : ∀ j, e j < 2) : ∀ m i s, s < 4294967296 → m ≤ 32 → (∀ D : Nat → Nat, D 0 = s → (∀ j, D (j + 1) = bstep (D j ^^^ e (i + j))) → D m = bsteps m (s ^^^ word e i m)) := by
  intro m
  induction m with
  | zero => intro i s hs hm D h0 _; rw [h0]; simp [word, bsteps]
  | succ m ih =>
    intro i s hs hm D h0 hD
    have hw := word_lt e he m (i + 1)
    have hw32 : word e (i + 1) m < 4294967296 := Nat.lt_of_lt_of_le hw (by
      have : 2 ^ m ≤ 2 ^ 32 := Nat.pow_le_pow_right (by decide) (by omega)
      simpa using this)
    have hw1 := word_lt e he (m + 1) i
    have hw132 : word e i (m + 1) < 4294967296 := Nat.lt_of_lt_of_le hw1 (by
      have : 2 ^ (m + 1) ≤ 2 ^ 32 := Nat.pow_le_pow_right (by decide) (by omega)
      simpa using this)
    have h1 : D 1 = bstep (s ^^^ e i) := by rw [hD 0, h0, Nat.add_zero]
    have hei := he i
    have hb : bstep (s ^^^ e i) < 4294967296 := bstep_lt (xor32_lt hs (by omega))
    have := ih (i + 1) (bstep (s ^^^ e i)) hb (by omega) (fun j => D (j + 1)) h1 (fun j => by
      show D (j + 1 + 1) = _
      rw [hD (j + 1)]
      congr 3
      omega)
    have e2 : D (m + 1) = bsteps m (bstep (s ^^^ e i) ^^^ word e (i + 1) m) := this
    have hp := bstep_pull s (word e i (m + 1)) hs hw132
    have q1 : word e i (m + 1) % 2 = e i := by rw [word]; omega
    have q2 : word e i (m + 1) / 2 = word e (i + 1) m := by rw [word]; omega
    rw [q1, q2] at hp
    rw [e2, ← hp, bsteps_front]
theorem dBit_burst (e : Nat → Nat) (he : ∀ j, e j < 2) (i n : Nat) (hin : ∀ j, j < n → e j ≠ 0 → i ≤ j ∧ j < i + 32) (hex : ∃ j, j < n ∧ e j ≠ 0) : dBit e n ≠ 0 := by
  obtain ⟨j0, hj0, hne⟩ := hex
  obtain ⟨a1, a2⟩ := hin j0 hj0 hne
  have hi0 : dBit e i = 0 := dBit_none e i fun j hj => by
    rcases Decidable.em (e j = 0) with h | h
    · exact h
    · have := hin j (by omega) h; omega
  have go := fun m (hm : m ≤ 32) => dBit_word e he m i 0 (by decide) hm (fun j => dBit e (i + j)) hi0 (fun j => rfl)
  simp only [Nat.zero_xor] at go
  rcases Nat.lt_or_ge (n - i) 33 with hs | hs
  · have g := go (n - i) (by omega)
    rw [show i + (n - i) = n by omega] at g
    intro hz
    rw [g] at hz
    have hw := word_lt e he (n - i) i
    have h32 : word e i (n - i) < 4294967296 := Nat.lt_of_lt_of_le hw (by
      have : 2 ^ (n - i) ≤ 2 ^ 32 := Nat.pow_le_pow_right (by decide) (by omega)
      simpa using this)
    exact hne (word_zero e _ _ (bsteps_zero h32 hz) j0 a1 (by omega))
  · have g := go 32 (Nat.le_refl _)
    have hw := word_lt e he 32 i
    have tail : ∀ t, i + 32 + t ≤ n → dBit e (i + 32 + t) = bsteps (32 + t) (word e i 32) := by
      intro t
      induction t with
      | zero => intro _; exact g
      | succ t ih =>
        intro ht
        have hz : e (i + 32 + t) = 0 := by
          rcases Decidable.em (e (i + 32 + t) = 0) with h | h
          · exact h
          · have := hin (i + 32 + t) (by omega) h; omega
        rw [← Nat.add_assoc, dBit, ih (by omega), hz, Nat.xor_zero, ← Nat.add_assoc, bsteps_succ']
    have g2 := tail (n - (i + 32)) (by omega)
    rw [show i + 32 + (n - (i + 32)) = n by omega] at g2
    intro hz
    rw [g2] at hz
    exact hne (word_zero e _ _ (bsteps_zero (by simpa using hw) hz) j0 a1 (by omega))
theorem sBit_diff (s : Nat) (hs : s < 4294967296) (a b : List Int) : ∀ j, sBit s a j ^^^ sBit s b j = dBit (fun i => bitS a i ^^^ bitS b i) j := by
  intro j
  induction j with
  | zero => simp [sBit, dBit]
  | succ j ih =>
    have h1 := bitS_lt a j
    have h2 := bitS_lt b j
    rw [sBit, sBit, dBit, ← ih, ← bstep_xor _ _ (xor32_lt (sBit_lt hs a j) (by omega)) (xor32_lt (sBit_lt hs b j) (by omega))]
    congr 1
    rw [Nat.xor_assoc, Nat.xor_assoc]
    congr 1
    rw [← Nat.xor_assoc (bitS a j), Nat.xor_comm (bitS a j) (sBit s b j), Nat.xor_assoc]
/-- Turned bits within 32 that stand together are told. -/
theorem crc_burst (s : Nat) (hs : s < 4294967296) (a b : List Int) (ha : Bytes a) (hb : Bytes b) (hl : a.length = b.length) (i : Nat) (hin : ∀ j, j < 8 * a.length → bitS a j ≠ bitS b j → i ≤ j ∧ j < i + 32)
    (hex : ∃ j, j < 8 * a.length ∧ bitS a j ≠ bitS b j) : crc s a ≠ crc s b := by
  have hx : ∀ j, (bitS a j ^^^ bitS b j ≠ 0) ↔ bitS a j ≠ bitS b j := fun j => by
    rcases two_cases (bitS_lt a j) with e | e <;> rcases two_cases (bitS_lt b j) with f | f <;> rw [e, f] <;> decide
  have hd := dBit_burst (fun i => bitS a i ^^^ bitS b i) (fun j => by
    rcases two_cases (bitS_lt a j) with e | e <;> rcases two_cases (bitS_lt b j) with f | f <;> simp only [e, f] <;> decide) i (8 * a.length) (fun j hj h => hin j hj ((hx j).1 h)) (by
    obtain ⟨j, hj, h⟩ := hex
    exact ⟨j, hj, (hx j).2 h⟩)
  rw [← sBit_diff s hs a b] at hd
  have e1 := sBit_crc s hs a ha a.length (Nat.le_refl _)
  have e2 := sBit_crc s hs b hb b.length (Nat.le_refl _)
  rw [List.take_length] at e1 e2
  rw [e1, hl, e2] at hd
  intro h
  rw [h] at hd
  simp at hd
theorem sum_burst (a b : List Int) (ha : Bytes a) (hb : Bytes b) (hl : a.length = b.length) (i : Nat) (hin : ∀ j, j < 8 * a.length → bitS a j ≠ bitS b j → i ≤ j ∧ j < i + 32)
    (hex : ∃ j, j < 8 * a.length ∧ bitS a j ≠ bitS b j) : sumS a ≠ sumS b := by
  intro h
  refine crc_burst (4294967295 ^^^ 0) (by decide) a b ha hb hl i hin hex ?_
  have := congrArg (4294967295 ^^^ ·) h
  simpa [sumS, more, ← Nat.xor_assoc] using this
/-! ### behind its own sum -/
theorem bsteps_pull (k : Nat) : ∀ s y, s < 4294967296 → y < 4294967296 → bsteps k (s ^^^ y) = bsteps k (s ^^^ y % 2 ^ k) ^^^ y / 2 ^ k := by
  induction k with
  | zero => intro s y _ _; simp [bsteps, Nat.mod_one]
  | succ k ih =>
    intro s y hs hy
    have hmod : y % 2 ^ (k + 1) = y % 2 ^ k + 2 ^ k * (y / 2 ^ k % 2) := by rw [Nat.pow_succ, Nat.mod_mul]
    have h1 := ih s y hs hy
    have hy2 : y % 2 ^ (k + 1) < 4294967296 := Nat.lt_of_le_of_lt (Nat.mod_le _ _) hy
    have h2 := ih s (y % 2 ^ (k + 1)) hs hy2
    have e1 : y % 2 ^ (k + 1) % 2 ^ k = y % 2 ^ k := by rw [Nat.pow_succ, Nat.mod_mul_right_mod]
    have e2 : y % 2 ^ (k + 1) / 2 ^ k = y / 2 ^ k % 2 := by rw [Nat.pow_succ, Nat.mod_mul_right_div_self]
    rw [e1, e2] at h2
    have hyk : y / 2 ^ k < 4294967296 := Nat.lt_of_le_of_lt (Nat.div_le_self _ _) hy
    have hb : bsteps k (s ^^^ y % 2 ^ k) < 4294967296 := bsteps_lt k (xor32_lt hs (Nat.lt_of_le_of_lt (Nat.mod_le _ _) hy))
    rw [bsteps_succ', bsteps_succ', h1, h2, bstep_pull _ _ hb hyk, Nat.pow_succ, Nat.div_div_eq_div_mul]
theorem bsteps_add (a b c : Nat) : bsteps (a + b) c = bsteps a (bsteps b c) := by
  induction a with
  | zero => simp [bsteps]
  | succ a ih => rw [show a + 1 + b = (a + b) + 1 by omega, bsteps_succ', ih, bsteps_succ']
end Go.Proofs.Ytoolimfdncfgnaa
