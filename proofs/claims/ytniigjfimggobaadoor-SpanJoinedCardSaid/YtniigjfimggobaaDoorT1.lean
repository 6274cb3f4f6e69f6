/- cmp.Compare at numbers, cmp.Or (the walks). -/
import Derived.Test.YtniigjfimggobaaDoorS7
namespace Go.Proofs.YtniigjfimggobaaDoor
open Go.RowKit
set_option linter.unusedVariables false
set_option linter.unusedSimpArgs false

theorem cmp26 (x y : Int) (w : World) : Calls Tryd.prog 26 #[.int .i64 x, .int .i64 y] w fun e w' => e = .returned (.int .i64 (Lib.compareInt x y)) ∧ w' = w := by
  have hx : (x != x) = false := by simp
  have hy : (y != y) = false := by simp
  by_cases h : x < y
  · have e : Lib.compareInt x y = -1 := by unfold Lib.compareInt; rw [if_pos h]
    rw [e]
    go_enter Tryd.func26, Tryd.ntmps26
    go_wp2
    go_ret
    exact ⟨rfl, rfl⟩
  · by_cases h2 : y < x
    · have e : Lib.compareInt x y = 1 := by unfold Lib.compareInt; rw [if_neg h, if_pos h2]
      rw [e]
      have h3 : ¬ x < y := h
      go_enter Tryd.func26, Tryd.ntmps26
      go_wp2
      go_ret
      exact ⟨rfl, rfl⟩
    · have e : Lib.compareInt x y = 0 := by unfold Lib.compareInt; rw [if_neg h, if_neg h2]
      rw [e]
      go_enter Tryd.func26, Tryd.ntmps26
      go_wp2
      go_ret
      exact ⟨rfl, rfl⟩
theorem cmp27 (x y : Int) (w : World) : Calls Tryd.prog 27 #[.int .i64 x, .int .i64 y] w fun e w' => e = .returned (.int .i64 (Lib.compareInt x y)) ∧ w' = w := by
  have hx : (x != x) = false := by simp
  have hy : (y != y) = false := by simp
  by_cases h : x < y
  · have e : Lib.compareInt x y = -1 := by unfold Lib.compareInt; rw [if_pos h]
    rw [e]
    go_enter Tryd.func27, Tryd.ntmps27
    go_wp2
    go_ret
    exact ⟨rfl, rfl⟩
  · by_cases h2 : y < x
    · have e : Lib.compareInt x y = 1 := by unfold Lib.compareInt; rw [if_neg h, if_pos h2]
      rw [e]
      have h3 : ¬ x < y := h
      go_enter Tryd.func27, Tryd.ntmps27
      go_wp2
      go_ret
      exact ⟨rfl, rfl⟩
    · have e : Lib.compareInt x y = 0 := by unfold Lib.compareInt; rw [if_neg h, if_neg h2]
      rw [e]
      go_enter Tryd.func27, Tryd.ntmps27
      go_wp2
      go_ret
      exact ⟨rfl, rfl⟩
theorem cmp28 (x y : Int) (w : World) : Calls Tryd.prog 28 #[.int .u64 x, .int .u64 y] w fun e w' => e = .returned (.int .i64 (Lib.compareInt x y)) ∧ w' = w := by
  have hx : (x != x) = false := by simp
  have hy : (y != y) = false := by simp
  by_cases h : x < y
  · have e : Lib.compareInt x y = -1 := by unfold Lib.compareInt; rw [if_pos h]
    rw [e]
    go_enter Tryd.func28, Tryd.ntmps28
    go_wp2
    go_ret
    exact ⟨rfl, rfl⟩
  · by_cases h2 : y < x
    · have e : Lib.compareInt x y = 1 := by unfold Lib.compareInt; rw [if_neg h, if_pos h2]
      rw [e]
      have h3 : ¬ x < y := h
      go_enter Tryd.func28, Tryd.ntmps28
      go_wp2
      go_ret
      exact ⟨rfl, rfl⟩
    · have e : Lib.compareInt x y = 0 := by unfold Lib.compareInt; rw [if_neg h, if_neg h2]
      rw [e]
      go_enter Tryd.func28, Tryd.ntmps28
      go_wp2
      go_ret
      exact ⟨rfl, rfl⟩
theorem cmp30 (x y : Int) (w : World) : Calls Tryd.prog 30 #[.int .i64 x, .int .i64 y] w fun e w' => e = .returned (.int .i64 (Lib.compareInt x y)) ∧ w' = w := by
  have hx : (x != x) = false := by simp
  have hy : (y != y) = false := by simp
  by_cases h : x < y
  · have e : Lib.compareInt x y = -1 := by unfold Lib.compareInt; rw [if_pos h]
    rw [e]
    go_enter Tryd.func30, Tryd.ntmps30
    go_wp2
    go_ret
    exact ⟨rfl, rfl⟩
  · by_cases h2 : y < x
    · have e : Lib.compareInt x y = 1 := by unfold Lib.compareInt; rw [if_neg h, if_pos h2]
      rw [e]
      have h3 : ¬ x < y := h
      go_enter Tryd.func30, Tryd.ntmps30
      go_wp2
      go_ret
      exact ⟨rfl, rfl⟩
    · have e : Lib.compareInt x y = 0 := by unfold Lib.compareInt; rw [if_neg h, if_neg h2]
      rw [e]
      go_enter Tryd.func30, Tryd.ntmps30
      go_wp2
      go_ret
      exact ⟨rfl, rfl⟩
theorem cmp60 (x y : Int) (w : World) : Calls Tryd.prog 60 #[.int .u64 x, .int .u64 y] w fun e w' => e = .returned (.int .i64 (Lib.compareInt x y)) ∧ w' = w := by
  have hx : (x != x) = false := by simp
  have hy : (y != y) = false := by simp
  by_cases h : x < y
  · have e : Lib.compareInt x y = -1 := by unfold Lib.compareInt; rw [if_pos h]
    rw [e]
    go_enter Tryd.func60, Tryd.ntmps60
    go_wp2
    go_ret
    exact ⟨rfl, rfl⟩
  · by_cases h2 : y < x
    · have e : Lib.compareInt x y = 1 := by unfold Lib.compareInt; rw [if_neg h, if_pos h2]
      rw [e]
      have h3 : ¬ x < y := h
      go_enter Tryd.func60, Tryd.ntmps60
      go_wp2
      go_ret
      exact ⟨rfl, rfl⟩
    · have e : Lib.compareInt x y = 0 := by unfold Lib.compareInt; rw [if_neg h, if_neg h2]
      rw [e]
      go_enter Tryd.func60, Tryd.ntmps60
      go_wp2
      go_ret
      exact ⟨rfl, rfl⟩
theorem cmp66 (x y : Int) (w : World) : Calls Tryd.prog 66 #[.int .i64 x, .int .i64 y] w fun e w' => e = .returned (.int .i64 (Lib.compareInt x y)) ∧ w' = w := by
  have hx : (x != x) = false := by simp
  have hy : (y != y) = false := by simp
  by_cases h : x < y
  · have e : Lib.compareInt x y = -1 := by unfold Lib.compareInt; rw [if_pos h]
    rw [e]
    go_enter Tryd.func66, Tryd.ntmps66
    go_wp2
    go_ret
    exact ⟨rfl, rfl⟩
  · by_cases h2 : y < x
    · have e : Lib.compareInt x y = 1 := by unfold Lib.compareInt; rw [if_neg h, if_pos h2]
      rw [e]
      have h3 : ¬ x < y := h
      go_enter Tryd.func66, Tryd.ntmps66
      go_wp2
      go_ret
      exact ⟨rfl, rfl⟩
    · have e : Lib.compareInt x y = 0 := by unfold Lib.compareInt; rw [if_neg h, if_neg h2]
      rw [e]
      go_enter Tryd.func66, Tryd.ntmps66
      go_wp2
      go_ret
      exact ⟨rfl, rfl⟩

theorem orFirst_zero_head {x : Int} {r : List Int} (h : x = 0) : orFirst (x :: r) = orFirst r := by
  show (if x = 0 then orFirst r else x) = _
  rw [if_pos h]
/-- cmp.Or: the first that is not 0. -/
def NReads (w : World) (v : Value) (l : List Int) : Prop :=
  ∃ A c, v = .slice A l.length c ∧ (0 < l.length → ∃ b off, A = some ⟨b, off, none⟩ ∧ ∀ (i : Nat) x, l[i]? = some x → w.cell? ⟨b, off + i, none⟩ = some (.int .i64 x))
theorem or_any (l : List Int) (v : Value) (w : World) (hr : NReads w v l) (hl : l.length ≤ 1000000) : Calls Tryd.prog 25 #[v] w fun e w' => e = .returned (.int .i64 (orFirst l)) ∧ w' = w := by
  obtain ⟨A, c, rfl, hc⟩ := hr
  have HC := Lib.hid hc
  clear hc
  go_enter Tryd.func25, Tryd.ntmps25
  go_wp2_with fail
  go_loopw [8] (fun i wr => ∃ k : Nat, i = .int .i64 k ∧ k ≤ l.length ∧ orFirst l = orFirst (l.drop k) ∧ wr = w) (fun i _ => l.length - (intOf i).toNat)
  case atStart => exact ⟨0, rfl, by omega, by simp, rfl⟩
  case round =>
    obtain ⟨k, rfl, hk, ho, rfl⟩ := hrel
    have k0 : (0 : Int) ≤ k := by omega
    by_cases h : k < l.length
    · obtain ⟨x, hx⟩ : ∃ x, l[k]? = some x := ⟨_, List.getElem?_eq_getElem h⟩
      obtain ⟨b, off, rfl, hcs⟩ := HC.out (by omega)
      have hcell := hcs k x hx
      have hd : l.drop k = x :: l.drop (k + 1) := by
        have := (List.getElem?_eq_some_iff.1 hx).2
        rw [← this, ← List.drop_eq_getElem_cons h]
      have k1 : (k : Int) < l.length := by omega
      rw [hd] at ho
      have HO := Lib.hid ho
      by_cases hx0 : x = 0
      · have hb : (x != 0) = false := by simp [hx0]
        have HX := Lib.hid hx0
        clear ho hd hx hx0 hcs h
        go_wp2_with fail
        exact ⟨⟨k + 1, by congr 1, by omega, by rw [HO.out]; exact orFirst_zero_head HX.out, trivial⟩, by simp [intOf]; omega⟩
      · have hb : (x != 0) = true := by simp [hx0]
        have HE : Hid (orFirst l = x) := Lib.hid (by rw [ho]; unfold orFirst; rw [if_neg hx0])
        clear ho hd hx hx0 hcs h
        go_wp2_with fail
        go_ret
        exact ⟨by rw [HE.out]; rfl, rfl⟩
    · have k1 : ¬ (k : Int) < l.length := by omega
      have HE : Hid (orFirst l = 0) := Lib.hid (by rw [ho, List.drop_eq_nil_of_le (by omega)]; rfl)
      clear ho h
      go_wp2_with fail
      go_ret
      exact ⟨by rw [HE.out]; rfl, rfl⟩
end Go.Proofs.YtniigjfimggobaaDoor
