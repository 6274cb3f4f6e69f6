/- The document's bytes of a number, of a head: the walks. -/
import Derived.Test.YtoolimfdncfgnaaC2
import Derived.Test.YtoolimfdncfgnaaA6
namespace Go.Proofs.Ytoolimfdncfgnaa
open Go.RowKit
set_option linter.unusedVariables false
set_option linter.unusedSimpArgs false

set_option maxHeartbeats 1000000 in
theorem small_any (B x : Nat) (v : Value) (l : List Int) (w : World) (hB : B ≤ w.heap.size) (hx : x < 4294967296)
    (ho : w.ownsRow B 5 1 v l.length (nums .u8 l)) (hl : l.length + 8 ≤ 140737488355328) :
    Calls Try.prog 47 #[v, .int .u32 x] w (AppPost B v (l ++ loB 4 x) w) := by
  obtain ⟨i0, hi, hz0, hz1, hz2⟩ := info_parts Try.info5
  go_enter Try.func47, Try.ntmps47
  go_wp2_with fail
  go_loopw [0, 5] (fun y i wr => ∃ k : Nat, i = .int .i64 k ∧ k ≤ 4 ∧ OwnStep .u8 5 B v w y (l ++ (loB 4 x).take k) wr) (fun _ i _ => 4 - (intOf i).toNat)
  case atStart => exact ⟨0, rfl, by omega, by simpa using OwnStep.refl ho⟩
  case round =>
    obtain ⟨k, rfl, hk, hst⟩ := hrel
    by_cases h : k < 4
    · have ht := map_range_take (f := fun i => ((x / 2 ^ (8 * i) % 256 : Nat) : Int)) 4 k h
      have hown := hst.own
      have hsz := hst.kept.size
      have hlen : (l ++ (loB 4 x).take k).length = l.length + k := by simp [loB_len]; omega
      rw [hlen] at hown
      have h' : (k : Int) < 4 := by omega
      have HS := Lib.hid (And.intro ht (And.intro hst hlen))
      clear ht hst hlen
      go_wp2_with (at_builtin; refine wpList_append_own_at _ rfl _ _ 25 rfl B 5 i0 (.int .u8 0) 1 1 Try.underlying25 hi hz0 hz1 hz2 rfl (by decide) _ _ _ rfl (hown.alloc _) ⟨wr.heap.size, 0, none⟩ 1 1 _ rfl ?c1 (cell_one_new _ _ _) ?c2 ?c3 ?c4 ?c5 ?_)
      case c1 => rfl
      case c2 => simp [Value.oneCell']
      case c3 => simp [maxLen]; omega
      case c4 => simp; omega
      case c5 => simp; omega
      rintro v2 w1 hown2 hgr - hat
      obtain ⟨ht, hst, hlen⟩ := HS.out
      have hst2 := OwnStep.append (k := .u8) (l' := l ++ (loB 4 x).take (k + 1)) _ (own_congr hown2 (by rw [loB, ht, ← List.append_assoc, nums_append _ (l ++ _)]; simp [nums, loB]) (by simp [loB_len]; omega)) hgr (by simpa using hat)
      have hst3 := hst.trans hst2
      have H3 := Lib.hid hst3
      clear hst3 hst2 hst hat hgr hown2 ht hlen hown
      go_wp2_with fail
      go_roundw
      case rel => exact ⟨k + 1, by go_num, by omega, H3.out⟩
      case measure => simp [intOf]; omega
    · obtain rfl : k = 4 := by omega
      have H := Lib.hid hst
      clear hst
      go_wp2_with fail
      go_ret
      refine ⟨_, rfl, ?_⟩
      have := H.out
      rwa [List.take_of_length_le (by rw [loB_len]; omega)] at this
set_option maxHeartbeats 1000000 in
theorem big_any (B n x : Nat) (v : Value) (l : List Int) (w : World) (hB : B ≤ w.heap.size) (hx : x < 18446744073709551616) (hn : n ≤ 8)
    (ho : w.ownsRow B 5 1 v l.length (nums .u8 l)) (hl : l.length + 8 ≤ 140737488355328) :
    Calls Try.prog 46 #[v, .int .u64 x, .int .i64 n] w (AppPost B v (l ++ hiB n x) w) := by
  obtain ⟨i0, hi, hz0, hz1, hz2⟩ := info_parts Try.info5
  go_enter Try.func46, Try.ntmps46
  have hn1 : IntKind.i64.wrap ((n : Int) - 1) = (n : Int) - 1 := IntWalk.i64_in _ (by omega)
  go_wp2_with fail
  go_loopw [0, 7] (fun y i wr => ∃ k : Nat, i = .int .i64 ((n : Int) - 1 - k) ∧ k ≤ n ∧ OwnStep .u8 5 B v w y (l ++ (hiB n x).take k) wr) (fun _ i _ => (intOf i + 1).toNat)
  case atStart => exact ⟨0, by congr 1; omega, by omega, by simpa using OwnStep.refl ho⟩
  case round =>
    obtain ⟨k, rfl, hk, hst⟩ := hrel
    by_cases h : k < n
    · have ht := map_range_take (f := fun i => ((x / 2 ^ (8 * (n - 1 - i)) % 256 : Nat) : Int)) n k h
      have hown := hst.own
      have hsz := hst.kept.size
      have hlen : (l ++ (hiB n x).take k).length = l.length + k := by simp [hiB_len]; omega
      rw [hlen] at hown
      obtain ⟨q, hq⟩ : ∃ q : Nat, n - 1 - k = q := ⟨_, rfl⟩
      have hq2 : n = k + 1 + q := by omega
      have hq3 : (n : Int) - 1 - k = q := by omega
      rw [hq3]
      have hq4 : (0 : Int) ≤ q := by omega
      have hq5 : ¬ (q : Int) < 0 := by omega
      have hq6 : q < 8 := by omega
      have HQ := Lib.hid hq3
      clear hq3
      have HS := Lib.hid (And.intro ht (And.intro hst (And.intro hq hlen)))
      clear ht hst hlen hq hq2
      go_wp2_with (at_builtin; refine wpList_append_own_at _ rfl _ _ 25 rfl B 5 i0 (.int .u8 0) 1 1 Try.underlying25 hi hz0 hz1 hz2 rfl (by decide) _ _ _ rfl (hown.alloc _) ⟨wr.heap.size, 0, none⟩ 1 1 _ rfl ?c1 (cell_one_new _ _ _) ?c2 ?c3 ?c4 ?c5 ?_)
      case c2 => simp [Value.oneCell']
      case c3 => simp [maxLen]; omega
      case c4 => omega
      case c5 => omega
      rintro v2 w1 hown2 hgr - hat
      obtain ⟨ht, hst, hq, hlen⟩ := HS.out
      have hst2 := OwnStep.append (k := .u8) (l' := l ++ (hiB n x).take (k + 1)) _ (own_congr hown2 (by rw [hiB, ht, ← List.append_assoc, nums_append _ (l ++ _), ← hq]; simp [nums, hiB]) (by simp [hiB_len]; omega)) hgr (by simpa using hat)
      have hst3 := hst.trans hst2
      have H3 := Lib.hid hst3
      clear hst3 hst2 hst hat hgr hown2 ht hq hlen hown
      go_wp2_with fail
      go_roundw
      case rel => exact ⟨k + 1, by congr 1; have := HQ.out; omega, by omega, H3.out⟩
      case measure => simp [intOf]
    · obtain rfl : k = n := by omega
      have hneg : (k : Int) - 1 - k = -1 := by omega
      rw [hneg]
      have H := Lib.hid hst
      clear hst
      go_wp2_with fail
      go_ret
      refine ⟨_, rfl, ?_⟩
      have := H.out
      rwa [List.take_of_length_le (by rw [hiB_len]; omega)] at this

end Go.Proofs.Ytoolimfdncfgnaa
