/- The walks of WireNames, WireZigs and WireShort: each returns true. -/
import Derived.Test.YtkefehceakcgoaaWire
namespace Go.Proofs.Ytkefehceakcgoaa
open Go.RowKit

theorem names_any (w : World) : Calls Try.prog 3 #[] w (AwakePost w) := by
  go_enter Try.func3, Try.ntmps3
  go_wp2_with (go_at_call 6; refine (awake_any _).mono ?_; rintro e w' ⟨rfl, hk⟩)
  go_ret
  exact ⟨rfl, hk⟩

set_option maxHeartbeats 1000000 in
theorem zigs_any (v u c : Int) (w : World) (v0 : -9223372036854775808 ≤ v) (v1 : v < 9223372036854775808) (u0 : 0 ≤ u) (u1 : u < 18446744073709551616) (c0 : -9223372036854775808 ≤ c) (c1 : c < 9223372036854775808) :
    Calls Try.prog 4 #[.int .i64 v, .int .u64 u, .int .i64 c] w (AwakePost w) := by
  have hz := zig_range v v0 v1
  have hZ := zag_range u u0 u1
  have e1 : (zag (zig v) == v) = true := by rw [beq_iff_eq, zagzig]
  have e2 : (zig (zag u) == u) = true := by rw [beq_iff_eq, zigzag u u0]
  obtain ⟨k, hk⟩ : ∃ k, k = pickN c 63 := ⟨_, rfl⟩
  have hk63 : k < 63 := by rw [hk]; exact Nat.mod_lt _ (by decide)
  have hz2 : ∀ P : Int, (zig v < 2 * P ↔ -P ≤ v ∧ v < P) := by intro P; unfold zig; split <;> omega
  obtain ⟨P, hP⟩ : ∃ P : Int, P = 2 ^ k := ⟨_, rfl⟩
  have hP1 : 1 ≤ P := by rw [hP]; exact Int.pow_pos (by decide)
  have hP2 : P ≤ 4611686018427387904 := by
    have h : 2 ^ k ≤ 2 ^ 62 := Nat.pow_le_pow_right (by decide) (show k ≤ 62 by omega)
    have e : P = ((2 ^ k : Nat) : Int) := by rw [hP]; simp
    omega
  have hE1 : (2 : Int) ^ k = P := by rw [hP]
  have hE2 : (2 : Int) ^ (k + 1) = 2 * P := by rw [hP, Int.pow_succ, Int.mul_comm]
  clear hP
  have hp : ∀ w, Calls Try.prog 7 #[.int .i64 c, .int .i64 63] w fun e w' => e = .returned (.int .i64 k) ∧ w' = w := fun w => by
    rw [hk]; exact pick_any c 63 w (by decide) (by decide) c0 c1
  clear hk
  have HE := Lib.hid (And.intro hE1 hE2)
  have HZ := Lib.hid hz2
  clear hE1 hE2 hz2
  have hcase : (v < -P ∧ ¬ zig v < 2 * P) ∨ (-P ≤ v ∧ P ≤ v ∧ ¬ zig v < 2 * P) ∨ (-P ≤ v ∧ v < P ∧ zig v < 2 * P) := by have := HZ.out P; omega
  go_enter Try.func4, Try.ntmps4
  go_wp2_with fail
  refine (awake_any _).mono ?_
  rintro e w1 ⟨rfl, hk1⟩
  go_wp2_with fail
  refine (hp _).mono ?_
  rintro e w' ⟨rfl, rfl⟩
  go_wp2_with fail
  refine (zig_any v _ v0 v1).mono ?_
  rintro e w' ⟨rfl, rfl⟩
  obtain ⟨hE1, hE2⟩ := HE.out
  rcases hcase with ⟨h1, h2⟩ | ⟨h1, h2, h3⟩ | ⟨h1, h2, h3⟩
  all_goals
    go_wp2_with (first | (go_at_call 9; refine (zag_any _ _ (by omega) (by omega)).mono ?_; rintro e w' ⟨rfl, rfl⟩) | (go_at_call 8; refine (zig_any _ _ (by omega) (by omega)).mono ?_; rintro e w' ⟨rfl, rfl⟩))
    go_ret
    refine ⟨ret_true ?_, hk1⟩
  · show (!decide (zig v < 2 * P)) = true
    rw [decide_eq_false (by omega)]; rfl
  · show (decide (zig v < 2 * P) == decide (v < P)) = true
    rw [decide_eq_false (by omega), decide_eq_false (by omega)]; rfl
  · rfl

set_option maxHeartbeats 1000000 in
theorem short_any (a b : Nat) (w : World) (ha : a < 18446744073709551616) (hb : b < 18446744073709551616) :
    Calls Try.prog 5 #[.int .u64 a, .int .u64 b] w (AwakePost w) := by
  have hlen := venc_len10 ha
  have hlenb := venc_len10 hb
  rw [← strOfNums_size] at hlen hlenb
  have hls := venc_len_sev a
  rw [← strOfNums_size] at hls
  have hba := fun w => bytesOf_uint a 0 ⟨#[]⟩ w ha
  have hbb := fun w => bytesOf_uint b 0 ⟨#[]⟩ w hb
  have hsame : a = b → strOfNums (venc a) = strOfNums (venc b) := fun h => by rw [h]
  have hmono : (strOfNums (venc b)).size < (strOfNums (venc a)).size → b < a := fun h => by
    rw [strOfNums_size, strOfNums_size] at h
    by_cases hc : a ≤ b
    · have := venc_mono a b hc; omega
    · omega
  have hne1 : a ≠ b → (((strOfNums (venc a)).extract 0 (strOfNums (venc b)).size).toList == (strOfNums (venc b)).toList) = false := fun h => by
    rw [str_extract, strOfNums_size]
    refine str_ne ((venc_bytes a).take _) (venc_bytes b) fun e => venc_apart a b (venc b).length h (by omega) ?_
    rw [e, List.take_length]
  have hne2 : a ≠ b → ((strOfNums (venc a)).toList == ((strOfNums (venc b)).extract 0 (strOfNums (venc a)).size).toList) = false := fun h => by
    rw [str_extract, strOfNums_size]
    refine str_ne (venc_bytes a) ((venc_bytes b).take _) fun e => venc_apart a b (venc a).length h (by omega) ?_
    rw [← e, List.take_length]
  generalize strOfNums (venc a) = sa at *
  generalize strOfNums (venc b) = sb at *
  have HL := Lib.hid hls; clear hls
  have HM := Lib.hid hmono; clear hmono
  have HS := Lib.hid hsame; clear hsame
  have HN := Lib.hid (And.intro hne1 hne2); clear hne1 hne2
  go_enter Try.func5, Try.ntmps5
  go_wp2_with fail
  refine (awake_any _).mono ?_
  rintro e w1 ⟨rfl, hk1⟩
  go_wp2_with fail
  refine (hba w1).mono ?_
  rintro e w2 ⟨rfl, hk2⟩
  have hk2 := hk1.trans hk2 (fun _ _ e => e) (fun _ _ e => e) (U := fun _ => False)
  clear hk1
  go_wp2_with fail
  refine (hbb w2).mono ?_
  rintro e w3 ⟨rfl, hk3⟩
  have hk3 := hk2.trans hk3 (fun _ _ e => e) (fun _ _ e => e) (U := fun _ => False)
  clear hk2
  go_wp2_with fail
  go_loop [10, 11] (fun n v => ∃ m k : Nat, n = .int .i64 k ∧ v = .int .u64 m ∧ m < 18446744073709551616 ∧ sa.size = k + sev m) (fun _ v => (intOf v).toNat)
  case atStart => exact ⟨a / 128, 1, rfl, by simp, by omega, HL.out⟩
  case round =>
    obtain ⟨m, k, rfl, rfl, hm, hl⟩ := hrel
    by_cases h : 0 < m
    · rw [sev_step h] at hl
      have HL := Lib.hid hl; clear hl
      have hk9 : k ≤ 10 := by have := HL.out; omega
      clear hlen
      go_wp2_with fail
      go_round
      case rel => exact ⟨m / 128, k + 1, by go_num, by simp, by omega, by rw [HL.out]; omega⟩
      case measure => simp [intOf]; omega
    · obtain rfl : m = 0 := by omega
      obtain rfl : sa.size = k := by rw [hl]; rfl
      clear hl hm h
      by_cases hab : a = b
      · obtain rfl := HS.out hab
        subst hab
        go_wp2_with fail
        go_ret
        refine ⟨ret_true ?_, hk3⟩
        simp
      · have hab' : ((a : Int) == b) = false := by rw [beq_eq_false_iff_ne]; omega
        by_cases hlt : sb.size < sa.size
        · have hlt' : (sb.size : Int) < sa.size := by omega
          have hba' := HM.out hlt
          have i1 : (0 : Int) ≤ (sb.size : Int) := by omega
          have i2 : (sb.size : Int) ≤ (sa.size : Int) := by omega
          have i3 : (b : Int) < a := by omega
          have hne := HN.out.1 hab
          go_wp2_with fail
          go_quiet (fail)
          go_wp2
          go_ret
          exact ⟨rfl, hk3.trans (.drewN _ _ _) (fun _ _ e => e) (fun _ _ e => e)⟩
        · have i1 : (0 : Int) ≤ (sa.size : Int) := by omega
          have i2 : (sa.size : Int) ≤ (sb.size : Int) := by omega
          have hne := HN.out.2 hab
          have hne' := HN.out.1 hab
          by_cases hgt : b < a
          · have i4 : (b : Int) < a := by omega
            by_cases heq : sa.size = sb.size
            · have i3 : (sb.size : Int) ≤ (sa.size : Int) := by omega
              have i5 : (0 : Int) ≤ (sb.size : Int) := by omega
              go_wp2_with fail
              go_quiet (fail)
              go_wp2
              go_ret
              exact ⟨rfl, hk3.trans (.drewN _ _ _) (fun _ _ e => e) (fun _ _ e => e)⟩
            · have i3 : (sa.size : Int) < (sb.size : Int) := by omega
              go_wp2_with fail
              go_quiet (fail)
              go_wp2
              go_ret
              exact ⟨rfl, hk3.trans (.drewN _ _ _) (fun _ _ e => e) (fun _ _ e => e)⟩
          · have i4 : ¬ (b : Int) < a := by omega
            have i6 : decide ((b : Int) < a) = false := decide_eq_false i4
            by_cases heq : sa.size = sb.size
            · have i3 : (sb.size : Int) ≤ (sa.size : Int) := by omega
              have i5 : (0 : Int) ≤ (sb.size : Int) := by omega
              go_wp2_with fail
              go_quiet (fail)
              go_wp2
              go_ret
              exact ⟨rfl, hk3.trans (.drewN _ _ _) (fun _ _ e => e) (fun _ _ e => e)⟩
            · have i3 : (sa.size : Int) < (sb.size : Int) := by omega
              go_wp2_with fail
              go_quiet (fail)
              go_wp2
              go_ret
              exact ⟨rfl, hk3.trans (.drewN _ _ _) (fun _ _ e => e) (fun _ _ e => e)⟩

end Go.Proofs.Ytkefehceakcgoaa
