/- The document's reading of a head. -/
import Derived.Test.YtoolimfdncfgnaaC7
import Derived.Test.YtoolimfdncfgnaaB2
namespace Go.Proofs.Ytoolimfdncfgnaa
open Go.RowKit
set_option linter.unusedVariables false
set_option linter.unusedSimpArgs false

set_option maxHeartbeats 1000000 in
theorem refTold_pos (A : Addr) (c : Nat) (l : List Int) (w : World) (hl : l.length ≤ 8) (hb : Bytes l)
    (hc : ∀ j, j < l.length → w.cell? (A.add j) = some (.int .u8 (l.getD j 0))) :
    Calls Try.prog 41 #[.slice (some A) l.length c] w fun e w' => e = .returned (.int .u64 (told l)) ∧ w' = w := by
  have HC := Lib.hid hc
  clear hc
  go_enter Try.func41, Try.ntmps41
  go_wp2_with fail
  go_loop [3, 4] (fun s n => ∃ k : Nat, n = .int .i64 k ∧ k ≤ l.length ∧ s = .int .u64 (told (l.take k))) (fun _ n => l.length - (intOf n).toNat)
  case atStart => exact ⟨0, rfl, by omega, by simp [told]⟩
  case round =>
    obtain ⟨k, rfl, hk, rfl⟩ := hrel
    by_cases h : k < l.length
    · have hcell := HC.out k h
      have ht := told_take l k h
      have hlt := told_lt hb k hk
      obtain ⟨hx0, hx1⟩ := hb.getD k h
      have hp : 256 ^ k ≤ 256 ^ 7 := Nat.pow_le_pow_right (by decide) (by omega)
      generalize hgx : l.getD k 0 = x at *
      obtain ⟨m, rfl⟩ := Int.eq_ofNat_of_zero_le hx0
      generalize hgs : told (l.take k) = s at *
      have hs : s < 72057594037927936 := by omega
      have hw1 : IntKind.u64.wrap (256 * (s : Int)) = 256 * s := IntWalk.u64_in _ (by omega)
      have hm : m < 256 := by omega
      have hw2 : IntKind.u64.wrap (256 * (s : Int) + m) = 256 * s + m := IntWalk.u64_in _ (by omega)
      have HT := Lib.hid ht
      clear hgx hgs ht hlt hp hx0 hx1
      go_wp2_with fail
      refine ⟨⟨k + 1, by go_num, by omega, by rw [HT.out]; simp⟩, by simp [intOf]; omega⟩
    · obtain rfl : k = l.length := by omega
      go_wp2_with fail
      go_ret
      exact ⟨ret_eq (by simp), rfl⟩
theorem refTold_at (A : Addr) (n c : Nat) (l : List Int) (w : World) (hn : l.length = n) (hl : n ≤ 8) (hb : Bytes l)
    (hc : ∀ j, j < n → w.cell? (A.add j) = some (.int .u8 (l.getD j 0))) :
    Calls Try.prog 41 #[.slice (some A) n c] w fun e w' => e = .returned (.int .u64 (told l)) ∧ w' = w := by
  subst hn; exact refTold_pos A c l w hl hb hc
theorem refHead_torn (A : Option Addr) (c : Nat) (l : List Int) (w : World) (hl : l.length < 24) :
    Calls Try.prog 23 #[.slice A l.length c] w (HeadPost l w) := by
  have hS : headS l = .torn := by unfold headS; rw [if_pos hl]
  have hP : ∀ w', Kept (fun _ => False) w w' → HeadPost l w (.returned (.tuple #[.agg #[.int .i64 0, .int .u64 0, .int .i64 0, .int .u32 0], .int .i64 23])) w' := fun w' h => by
    unfold HeadPost; rw [hS]; exact ⟨h, rfl⟩
  have HP := Lib.hid hP
  clear hP hS
  have hl' : (l.length : Int) < 24 := by omega
  go_enter Try.func23, Try.ntmps23
  go_wp2_with fail
  exact bodyPost_ret (v := .tuple #[.agg #[.int .i64 0, .int .u64 0, .int .i64 0, .int .u32 0], .int .i64 23]) (by simp [results, Try.results23, go_sem]) rfl (HP.out _ (Kept.alloc _ _ _))
end Go.Proofs.Ytoolimfdncfgnaa
