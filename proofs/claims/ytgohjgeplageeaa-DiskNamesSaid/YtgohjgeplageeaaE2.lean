/- named: which texts may be a file's name. -/
import Derived.Test.YtgohjgeplageeaaE1
import Derived.Test.YtgohjgeplageeaaShelf
namespace Go.Proofs.Ytgohjgeplageeaa
open Go Go.RowKit
set_option linter.unusedVariables false
set_option linter.unusedSimpArgs false

def BoolPost (b : Bool) (w : World) (e : Ending) (w' : World) : Prop := e = .returned (.bool b) ∧ w' = w
theorem empty_toList (s : ByteArray) : s.toList.isEmpty = decide (s.size = 0) := by
  rw [ByteArray.toList_eq]
  cases s with
  | mk d => cases d with
    | mk l => cases l <;> simp [ByteArray.size]
theorem drop_get' {α : Type} {l : List α} {k : Nat} {x : α} (h : l[k]? = some x) : l.drop k = x :: l.drop (k + 1) := by
  have h1 := (List.getElem?_eq_some_iff.1 h).1
  have h2 := (List.getElem?_eq_some_iff.1 h).2
  rw [← h2, ← List.drop_eq_getElem_cons h1]
theorem all_drop {α : Type} {l : List α} {k : Nat} {x : α} (h : l[k]? = some x) (f : α → Bool) : (l.drop k).all f = (f x && (l.drop (k + 1)).all f) := by
  rw [drop_get' h]; rfl
theorem nameB_table : ∀ c : UInt8, decide (0 ≤ Lib.indexByte [97, 98, 99, 100, 101, 102, 103, 104, 105, 106, 107, 108, 109, 110, 111, 112, 113, 114, 115, 116, 117, 118, 119, 120, 121, 122, 48, 49, 50, 51, 52, 53, 54, 55, 56, 57, 45, 46] c) = nameB c := by
  have h : ∀ n : Fin 256, decide (0 ≤ Lib.indexByte [97, 98, 99, 100, 101, 102, 103, 104, 105, 106, 107, 108, 109, 110, 111, 112, 113, 114, 115, 116, 117, 118, 119, 120, 121, 122, 48, 49, 50, 51, 52, 53, 54, 55, 56, 57, 45, 46] (UInt8.ofNat n)) = nameB (UInt8.ofNat n) := by decide +kernel
  intro c
  have := h ⟨c.toNat, c.toNat_lt⟩
  simpa using this
set_option maxHeartbeats 4000000 in
theorem named_any (s : ByteArray) (w : World) (hs : s.size ≤ 9223372036854775807) : Calls Try.prog 48 #[.string s] w (BoolPost (named s) w) := by
  have hE := empty_toList s
  have HP := Lib.hid (show named s = (s.data.toList.all nameB && decide (0 < s.size) && decide (s.size ≤ 40)) from rfl)
  go_enter Try.func48, Try.ntmps48
  go_wp2_with fail
  go_loopw [6] (fun i wr => ∃ k : Nat, i = .int .i64 k ∧ k ≤ s.size ∧ named s = ((s.data.toList.drop k).all nameB && decide (0 < s.size) && decide (s.size ≤ 40)) ∧ wr = w) (fun i _ => s.size - (intOf i).toNat)
  case atStart => exact ⟨0, rfl, by omega, by rw [HP.out]; rfl, rfl⟩
  case round =>
    obtain ⟨k, rfl, hk, ho, rfl⟩ := hrel
    have k0 : (0 : Int) ≤ k := by omega
    by_cases h : k < s.size
    · have k1 : (k : Int) < s.size := by omega
      have hx : s.data.toList[k]? = some (s[k]'h) := by
        rw [List.getElem?_eq_getElem (by simpa using h)]; rfl
      rw [all_drop hx] at ho
      have hext : s.extract k (k + 1) = ⟨#[s[k]'h]⟩ := by
        apply ByteArray.ext
        rw [ByteArray.data_extract]
        apply Array.ext'
        simp only [Array.toList_extract, List.extract_eq_take_drop]
        rw [drop_get' hx]
        simp
      have HX := Lib.hid hext
      have htab := nameB_table (s[k]'h)
      have HT := Lib.hid htab
      clear hx hext htab
      cases hb : nameB (s[k]'h) with
      | false =>
        have HO : Hid (named s = false) := Lib.hid (by rw [ho, hb]; rfl)
        rw [hb] at HT
        clear ho hb
        go_wp2_with (go_at_call 55; rw [HX.out]; refine (Try.strings_Contains_one _ (s[k]'h) _).mono ?_; rintro e w' ⟨rfl, rfl⟩; rw [HT.out])
        go_ret
        exact ⟨by rw [HO.out]; rfl, rfl⟩
      | true =>
        have HO : Hid (named s = ((s.data.toList.drop (k + 1)).all nameB && decide (0 < s.size) && decide (s.size ≤ 40))) := Lib.hid (by rw [ho, hb]; rfl)
        rw [hb] at HT
        clear ho hb
        go_wp2_with (go_at_call 55; rw [HX.out]; refine (Try.strings_Contains_one _ (s[k]'h) _).mono ?_; rintro e w' ⟨rfl, rfl⟩; rw [HT.out])
        exact ⟨⟨k + 1, by congr 1, by omega, HO.out, trivial⟩, by simp [intOf]; omega⟩
    · have k1 : ¬ (k : Int) < s.size := by omega
      have HO : Hid (named s = (decide (0 < s.size) && decide (s.size ≤ 40))) := Lib.hid (by rw [ho, List.drop_eq_nil_of_le (by simp; omega)]; rfl)
      clear ho h
      by_cases z : s.size = 0
      · have HQ : Hid (named s = false) := Lib.hid (by rw [HO.out]; simp [z])
        rw [decide_eq_true z] at hE
        clear z
        go_wp2_with fail
        go_ret
        exact ⟨by rw [HQ.out]; rfl, rfl⟩
      · have HQ : Hid (named s = decide ((s.size : Int) ≤ 40)) := Lib.hid (by rw [HO.out]; simp [Nat.pos_of_ne_zero z]; omega)
        rw [decide_eq_false z] at hE
        clear z
        go_wp2_with fail
        go_ret
        exact ⟨by rw [HQ.out]; rfl, rfl⟩
end Go.Proofs.Ytgohjgeplageeaa
