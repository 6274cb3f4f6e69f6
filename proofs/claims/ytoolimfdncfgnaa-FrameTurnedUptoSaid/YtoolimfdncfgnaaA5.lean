/- number and sumOf read bytes as numbers. -/
import Derived.Test.YtoolimfdncfgnaaA4
import Derived.Deep.QuietTactic
import Derived.BigQuiet
namespace Go.Proofs.Ytoolimfdncfgnaa
open Go.RowKit
set_option linter.unusedVariables false
set_option linter.unusedSimpArgs false

/-- What bytes say, the highest first; four bytes, the lowest first. -/
def told (l : List Int) : Nat := l.foldl (fun n b => 256 * n + b.toNat) 0
def leS (a b c d : Int) : Nat := a.toNat + 256 * b.toNat + 65536 * c.toNat + 16777216 * d.toNat
theorem told_take (l : List Int) (k : Nat) (h : k < l.length) : told (l.take (k + 1)) = 256 * told (l.take k) + (l.getD k 0).toNat := by
  rw [List.take_succ_eq_append_getElem h, told, List.foldl_append, List.getD_eq_getElem?_getD, List.getElem?_eq_getElem h]; rfl
theorem told_lt {l : List Int} (hb : Bytes l) (k : Nat) : k ≤ l.length → told (l.take k) < 256 ^ k := by
  induction k with
  | zero => intro _; simp [told]
  | succ k ih =>
    intro h
    have h1 := ih (by omega)
    have h2 := hb.getD k (by omega)
    rw [told_take l k (by omega), Nat.pow_succ]
    have : told (l.take k) + 1 ≤ 256 ^ k := h1
    omega

theorem or_byte (a b : Nat) (ha : a * 256 < 18446744073709551616) (hb : b < 256) : bits .or .u64 ((a : Int) * 256) (b : Int) = ((256 * a + b : Nat) : Int) := by
  rw [bits_join .u64 64 (by decide) wraps_u64 8 ((a : Int) * 256) b (by omega) (by omega) (by omega) (by omega) (by omega) (by omega)]
  omega

set_option maxHeartbeats 1000000 in
theorem number_pos (A : Addr) (c : Nat) (l : List Int) (w : World) (hl : l.length ≤ 8) (hb : Bytes l)
    (hc : ∀ j, j < l.length → w.cell? (A.add j) = some (.int .u8 (l.getD j 0))) :
    Calls Try.prog 39 #[.slice (some A) l.length c] w fun e w' => e = .returned (.int .u64 (told l)) ∧ w' = w := by
  have HC := Lib.hid hc
  clear hc
  go_enter Try.func39, Try.ntmps39
  go_wp2_with fail
  go_loop [3, 8] (fun s n => ∃ k : Nat, n = .int .i64 k ∧ k ≤ l.length ∧ s = .int .u64 (told (l.take k))) (fun _ n => l.length - (intOf n).toNat)
  case atStart => exact ⟨0, rfl, by omega, by simp [told]⟩
  case round =>
    obtain ⟨k, rfl, hk, rfl⟩ := hrel
    by_cases h : k < l.length
    · have hcell := HC.out k h
      have ht := told_take l k h
      have hlt := told_lt hb k hk
      obtain ⟨hx0, hx1⟩ := hb.getD k h
      have hp : 256 ^ k ≤ 256 ^ 7 := Nat.pow_le_pow_right (by decide) (by omega)
      generalize hgx : l.getD k 0 = x at *
      obtain ⟨m, rfl⟩ := Int.eq_ofNat_of_zero_le hx0
      generalize hgs : told (l.take k) = s at *
      have hs : s < 72057594037927936 := by omega
      have hs0 : (s : Int) * 256 < 18446744073709551616 := by omega
      have hs1 : (0 : Int) ≤ (s : Int) * 256 := by omega
      have e1 := or_byte s m (by omega) (by omega)
      have hm : m < 256 := by omega
      have HT := Lib.hid ht
      clear hgx hgs ht hlt hp hx0 hx1
      go_wp2_with fail
      refine ⟨⟨k + 1, by go_num, by omega, by rw [HT.out]; simp⟩, by simp [intOf]; omega⟩
    · obtain rfl : k = l.length := by omega
      go_wp2_with fail
      go_ret
      exact ⟨ret_eq (by simp), rfl⟩

theorem le_or (a b c d : Nat) (ha : a < 256) (hb : b < 256) (hc : c < 256) (hd : d < 256) :
    bits .or .u32 (a : Int) ((b : Int) * 256) = ((a + 256 * b : Nat) : Int) ∧ bits .or .u32 ((a + 256 * b : Nat) : Int) ((c : Int) * 65536) = ((a + 256 * b + 65536 * c : Nat) : Int) ∧
    bits .or .u32 ((a + 256 * b + 65536 * c : Nat) : Int) ((d : Int) * 16777216) = ((a + 256 * b + 65536 * c + 16777216 * d : Nat) : Int) := by
  have lo : ∀ (x y i : Nat), x < 2 ^ i → y % 2 ^ i = 0 → x < 2 ^ 32 → y < 2 ^ 32 → bits .or .u32 (x : Int) (y : Int) = ((x + y : Nat) : Int) := fun x y i hx hy hx' hy' => by
    have hq : y = 2 ^ i * (y / 2 ^ i) := by have := Nat.div_add_mod y (2 ^ i); omega
    rw [(bits_nat .u32 32 (by decide) wraps_u32 x y hx' hy').2, Nat.or_comm, hq, ← Nat.two_pow_add_eq_or_of_lt hx (y / 2 ^ i), Nat.add_comm]
  refine ⟨?_, ?_, ?_⟩
  · have := lo a (b * 256) 8 (by omega) (by omega) (by omega) (by omega)
    rw [show ((b : Int) * 256) = ((b * 256 : Nat) : Int) by omega, this]; omega
  · have := lo (a + 256 * b) (c * 65536) 16 (by omega) (by omega) (by omega) (by omega)
    rw [show ((c : Int) * 65536) = ((c * 65536 : Nat) : Int) by omega, this]; omega
  · have := lo (a + 256 * b + 65536 * c) (d * 16777216) 24 (by omega) (by omega) (by omega) (by omega)
    rw [show ((d : Int) * 16777216) = ((d * 16777216 : Nat) : Int) by omega, this]; omega

set_option maxHeartbeats 1000000 in
theorem sumOf_pos (A : Addr) (n cc : Nat) (a b c d : Nat) (w : World) (hn : 4 ≤ n) (hn2 : n ≤ cc) (ha : a < 256) (hb : b < 256) (hc : c < 256) (hd : d < 256)
    (h0 : w.cell? A = some (.int .u8 a)) (h1 : w.cell? ⟨A.block, A.off + 1, none⟩ = some (.int .u8 b)) (h2 : w.cell? ⟨A.block, A.off + 2, none⟩ = some (.int .u8 c)) (h3 : w.cell? ⟨A.block, A.off + 3, none⟩ = some (.int .u8 d)) :
    Calls Try.prog 40 #[.slice (some A) n cc] w fun e w' => e = .returned (.int .u32 (leS a b c d)) ∧ ∃ m, w' = w.drewN m := by
  obtain ⟨e1, e2, e3⟩ := le_or a b c d ha hb hc hd
  have n0 : (0 : Int) < n := by omega
  have m0 : 0 < n := by omega
  have m1 : 1 < n := by omega
  have m2 : 2 < n := by omega
  have m3 : 3 < n := by omega
  have n1 : (1 : Int) < n := by omega
  have n2 : (2 : Int) < n := by omega
  have n3 : (3 : Int) < n := by omega
  have HE := Lib.hid (And.intro e2 e3)
  clear e2 e3
  go_enter Try.func40, Try.ntmps40
  go_wp2_with fail
  go_quiet (fail)
  go_wp2
  go_ret
  refine ⟨ret_eq ?_, nq, rfl⟩
  show bits .or .u32 (bits .or .u32 ((a : Int) + 256 * b) ((c : Int) * 65536)) ((d : Int) * 16777216) = _
  rw [show ((a : Int) + 256 * b) = ((a + 256 * b : Nat) : Int) by omega, HE.out.1, HE.out.2]
  rfl
end Go.Proofs.Ytoolimfdncfgnaa
