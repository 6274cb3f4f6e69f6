/- Check: plain, keyed, valued (the walks). -/
import Derived.Test.YtniigjfimggobaaDoorT2
import Derived.Test.YtniigjfimggobaaDoorS3
import Derived.Test.YtniigjfimggobaaDoorRt
import Derived.Test.YtniigjfimggobaaDoorShelf
namespace Go.Proofs.YtniigjfimggobaaDoor
open Go.RowKit
set_option linter.unusedVariables false
set_option linter.unusedSimpArgs false

def BoolPost (b : Bool) (w : World) (e : Ending) (w' : World) : Prop := e = .returned (.bool b) ∧ Kept (fun _ => False) w w'
theorem empty_toList (s : ByteArray) : s.toList.isEmpty = decide (s.size = 0) := by
  rw [ByteArray.toList_eq]
  cases s with
  | mk d => cases d with
    | mk l => cases l <;> simp [ByteArray.size]
theorem drop_get' {α : Type} {l : List α} {k : Nat} {x : α} (h : l[k]? = some x) : l.drop k = x :: l.drop (k + 1) := by
  have h1 := (List.getElem?_eq_some_iff.1 h).1
  have h2 := (List.getElem?_eq_some_iff.1 h).2
  rw [← h2, ← List.drop_eq_getElem_cons h1]
theorem all_drop {p : UInt8 → Bool} {l : List UInt8} {k : Nat} {x : UInt8} (h : l[k]? = some x) : (l.drop k).all p = (p x && (l.drop (k + 1)).all p) := by
  have h1 := (List.getElem?_eq_some_iff.1 h).1
  have h2 := (List.getElem?_eq_some_iff.1 h).2
  rw [← h2, List.drop_eq_getElem_cons h1]; rfl

set_option maxHeartbeats 4000000 in
theorem plain_any (s : ByteArray) (most fr : Nat) (w : World) (hs : s.size ≤ 9223372036854775807) (hm : most ≤ 1000) (hf : fr ≤ 255) (hU : Lib.Utf8Tabs 0 1 w) : Calls Tryd.prog 18 #[.string s, .int .i64 most, .int .u8 fr] w (BoolPost (plainS s most fr) w) := by
  have HU := Lib.hid hU
  clear hU
  have hE := empty_toList s
  by_cases h0 : s.size = 0
  · have HP : Hid (plainS s most fr = false) := Lib.hid (by unfold plainS; simp [h0])
    rw [decide_eq_true h0] at hE
    clear h0
    go_enter Tryd.func18, Tryd.ntmps18
    go_wp2_with fail
    go_ret
    exact ⟨by rw [HP.out]; rfl, Kept.refl _ _⟩
  rw [decide_eq_false h0] at hE
  by_cases h1 : s.size ≤ most
  case neg =>
    have HP : Hid (plainS s most fr = false) := Lib.hid (by unfold plainS; simp [h1])
    have h2 : (most < s.size) = True := eq_true (by omega)
    clear h0 h1
    go_enter Tryd.func18, Tryd.ntmps18
    go_wp2_with fail
    go_ret
    exact ⟨by rw [HP.out]; rfl, Kept.refl _ _⟩
  have h2 : (most < s.size) = False := eq_false (by omega)
  cases hv : Lib.validD s.data.toList with
  | false =>
    have HP : Hid (plainS s most fr = false) := Lib.hid (by unfold plainS; simp [hv])
    have HV := Lib.hid hv
    clear h0 h1 hv
    go_enter Tryd.func18, Tryd.ntmps18
    go_wp2_with (go_at_call 51; refine (Tryd.utf8_ValidString s w (by omega) HU.out).mono ?_; rintro e w' ⟨rfl, hb⟩; rw [HV.out])
    go_ret
    exact ⟨by rw [HP.out]; rfl, Kept.of_below hb _⟩
  | true =>
    have HP : Hid (plainS s most fr = s.data.toList.all fun b => decide (fr ≤ b.toNat ∧ b.toNat ≠ 127)) := Lib.hid (by unfold plainS; simp [hv, h0, h1])
    have HV := Lib.hid hv
    clear h0 h1 hv
    go_enter Tryd.func18, Tryd.ntmps18
    go_wp2_with (go_at_call 51; refine (Tryd.utf8_ValidString s w (by omega) HU.out).mono ?_; rintro e w' ⟨rfl, hb⟩; rw [HV.out])
    have HB := Lib.hid (Kept.of_below hb (fun _ => False))
    clear hb
    go_loopw [23] (fun i wr => ∃ k : Nat, i = .int .i64 k ∧ k ≤ s.size ∧ plainS s most fr = ((s.data.toList.drop k).all fun b => decide (fr ≤ b.toNat ∧ b.toNat ≠ 127)) ∧ wr = w') (fun i _ => s.size - (intOf i).toNat)
    case atStart => exact ⟨0, rfl, by omega, by simp [HP.out], rfl⟩
    case round =>
      obtain ⟨k, rfl, hk, ho, rfl⟩ := hrel
      have k0 : (0 : Int) ≤ k := by omega
      by_cases h : k < s.size
      · have k1 : (k : Int) < s.size := by omega
        have hx : s.data.toList[k]? = some (s[k]'h) := by
          rw [List.getElem?_eq_getElem (by simpa using h)]; rfl
        rw [all_drop hx] at ho
        by_cases hb1 : fr ≤ (s[k]'h).toNat
        case neg =>
          have HO : Hid (plainS s most fr = false) := Lib.hid (by rw [ho]; simp [hb1])
          have b1 : ((s[k]'h).toNat < fr) = True := eq_true (by omega)
          clear ho hb1 hx
          go_wp2_with fail
          go_ret
          exact ⟨by rw [HO.out]; rfl, HB.out⟩
        have b1 : ((s[k]'h).toNat < fr) = False := eq_false (by omega)
        by_cases hb2 : (s[k]'h).toNat = 127
        case pos =>
          have HO : Hid (plainS s most fr = false) := Lib.hid (by rw [ho]; simp [hb2])
          have b2 : (((s[k]'h).toNat : Int) == 127) = true := by rw [hb2]; rfl
          clear ho hb1 hx hb2
          go_wp2_with fail
          go_ret
          exact ⟨by rw [HO.out]; rfl, HB.out⟩
        have b2 : (((s[k]'h).toNat : Int) == 127) = false := by simp; omega
        have HO : Hid (plainS s most fr = ((s.data.toList.drop (k + 1)).all fun b => decide (fr ≤ b.toNat ∧ b.toNat ≠ 127))) := Lib.hid (by rw [ho]; simp [hb2, hb1])
        clear ho hb1 hx hb2
        go_wp2_with fail
        exact ⟨⟨k + 1, by congr 1, by omega, HO.out, trivial⟩, by simp [intOf]; omega⟩
      · have k1 : ¬ (k : Int) < s.size := by omega
        have HO : Hid (plainS s most fr = true) := Lib.hid (by rw [ho, List.drop_eq_nil_of_le (by simp; omega)]; rfl)
        clear ho h
        go_wp2_with fail
        go_ret
        exact ⟨by rw [HO.out]; rfl, HB.out⟩
set_option maxHeartbeats 4000000 in
theorem valued_any (a : Atr) (w : World) (hs : a.t.size ≤ 9223372036854775807) (hU : Lib.Utf8Tabs 0 1 w) : Calls Tryd.prog 53 #[.agg #[.int .i64 a.k, .string a.t, .int .i64 a.i]] w (BoolPost (valuedS a) w) := by
  have HU := Lib.hid hU
  clear hU
  have hE := empty_toList a.t
  have hA : Kept (fun _ => False) w (w.alloc (.cells #[.int .i64 a.k, .string a.t, .int .i64 a.i] 64)) := .alloc _ _ _
  have HA := Lib.hid hA
  clear hA
  by_cases h0 : a.k = 0
  · have e0 : (a.k == 0) = true := by simp [h0]
    have hval : valuedS a = (decide (a.i = 0) && (decide (a.t.size ≤ 200) && Lib.validD a.t.data.toList)) := by unfold valuedS; rw [if_pos h0]
    clear h0
    by_cases h1 : a.i = 0
    case neg =>
      have e1 : (a.i == 0) = false := by simp [h1]
      have HO := Lib.hid (show valuedS a = false by rw [hval]; simp [h1])
      clear h1 hval
      go_enter Tryd.func53, Tryd.ntmps53
      go_wp2_with fail
      go_ret
      exact ⟨by rw [HO.out]; rfl, HA.out⟩
    have e1 : (a.i == 0) = true := by simp [h1]
    by_cases h2 : a.t.size ≤ 200
    case neg =>
      have e2 : ((a.t.size : Int) ≤ 200) = False := eq_false (by omega)
      have HO := Lib.hid (show valuedS a = false by rw [hval]; simp [h2])
      clear h1 hval h2
      go_enter Tryd.func53, Tryd.ntmps53
      go_wp2_with fail
      go_ret
      exact ⟨by rw [HO.out]; rfl, HA.out⟩
    have e2 : ((a.t.size : Int) ≤ 200) = True := eq_true (by omega)
    have HO := Lib.hid (show valuedS a = Lib.validD a.t.data.toList by rw [hval]; simp [h2, h1])
    clear h1 hval h2
    go_enter Tryd.func53, Tryd.ntmps53
    go_wp2_with (go_at_call 51; refine (Tryd.utf8_ValidString a.t _ (by omega) (Utf8Tabs.kept HU.out HA.out (fun h => h) (fun h => h))).mono ?_; rintro e w' ⟨rfl, hb⟩)
    go_ret
    exact ⟨by rw [HO.out]; rfl, HA.out.trans (Kept.of_below hb _) (fun _ _ e => e) (fun _ _ e => e)⟩
  have e0 : (a.k == 0) = false := by simp [h0]
  by_cases h1 : a.k = 1
  · have e1 : (a.k == 1) = true := by simp [h1]
    have HO := Lib.hid (show valuedS a = a.t.toList.isEmpty by unfold valuedS; rw [if_neg h0, if_pos h1, hE])
    clear h0 h1 hE
    go_enter Tryd.func53, Tryd.ntmps53
    go_wp2_with fail
    go_ret
    exact ⟨by rw [HO.out]; rfl, HA.out⟩
  have e1 : (a.k == 1) = false := by simp [h1]
  by_cases h2 : a.k = 2
  · have e2 : (a.k == 2) = true := by simp [h2]
    have hval : valuedS a = (decide (a.t.size = 0) && decide (a.i = 0 ∨ a.i = 1)) := by unfold valuedS; rw [if_neg h0, if_neg h1, if_pos h2]
    clear h0 h1 h2
    by_cases h3 : a.t.size = 0
    case neg =>
      rw [decide_eq_false h3] at hE
      have HO := Lib.hid (show valuedS a = false by rw [hval]; simp [h3])
      clear h3 hval
      go_enter Tryd.func53, Tryd.ntmps53
      go_wp2_with fail
      go_ret
      exact ⟨by rw [HO.out]; rfl, HA.out⟩
    rw [decide_eq_true h3] at hE
    by_cases h4 : a.i = 0
    · have e4 : (a.i == 0) = true := by simp [h4]
      have HO := Lib.hid (show valuedS a = true by rw [hval]; simp [h3, h4])
      clear h3 hval h4
      go_enter Tryd.func53, Tryd.ntmps53
      go_wp2_with fail
      go_ret
      exact ⟨by rw [HO.out]; rfl, HA.out⟩
    have e4 : (a.i == 0) = false := by simp [h4]
    have HO := Lib.hid (show valuedS a = (a.i == 1) by rw [hval]; simp [h3, h4]; rfl)
    clear h3 hval h4
    go_enter Tryd.func53, Tryd.ntmps53
    go_wp2_with fail
    go_ret
    exact ⟨by rw [HO.out]; rfl, HA.out⟩
  have e2 : (a.k == 2) = false := by simp [h2]
  have HO := Lib.hid (show valuedS a = false by unfold valuedS; rw [if_neg h0, if_neg h1, if_neg h2])
  clear h0 h1 h2
  go_enter Tryd.func53, Tryd.ntmps53
  go_wp2_with fail
  go_ret
  exact ⟨by rw [HO.out]; rfl, HA.out⟩

theorem keyB_table : ∀ c : UInt8, decide (0 ≤ Lib.indexByte [97, 98, 99, 100, 101, 102, 103, 104, 105, 106, 107, 108, 109, 110, 111, 112, 113, 114, 115, 116, 117, 118, 119, 120, 121, 122, 48, 49, 50, 51, 52, 53, 54, 55, 56, 57, 46, 95, 45] c) = keyB c := by
  have h : ∀ n : Fin 256, decide (0 ≤ Lib.indexByte [97, 98, 99, 100, 101, 102, 103, 104, 105, 106, 107, 108, 109, 110, 111, 112, 113, 114, 115, 116, 117, 118, 119, 120, 121, 122, 48, 49, 50, 51, 52, 53, 54, 55, 56, 57, 46, 95, 45] (UInt8.ofNat n)) = keyB (UInt8.ofNat n) := by decide +kernel
  intro c
  have := h ⟨c.toNat, c.toNat_lt⟩
  simpa using this
set_option maxHeartbeats 4000000 in
theorem keyed_any (s : ByteArray) (w : World) (hs : s.size ≤ 9223372036854775807) : Calls Tryd.prog 52 #[.string s] w (BoolPost (keyedS s) w) := by
  have hE := empty_toList s
  by_cases h0 : s.size = 0
  · have HP : Hid (keyedS s = false) := Lib.hid (by unfold keyedS; simp [h0])
    rw [decide_eq_true h0] at hE
    clear h0
    go_enter Tryd.func52, Tryd.ntmps52
    go_wp2_with fail
    go_ret
    exact ⟨by rw [HP.out]; rfl, Kept.refl _ _⟩
  rw [decide_eq_false h0] at hE
  have z0 : 0 < s.size := by omega
  by_cases h1 : s.size ≤ 40
  case neg =>
    have HP : Hid (keyedS s = false) := Lib.hid (by unfold keyedS; simp [h1])
    have h2 : (40 < (s.size : Int)) = True := eq_true (by omega)
    clear h0 h1
    go_enter Tryd.func52, Tryd.ntmps52
    go_wp2_with fail
    go_ret
    exact ⟨by rw [HP.out]; rfl, Kept.refl _ _⟩
  have h2 : (40 < (s.size : Int)) = False := eq_false (by omega)
  have hx0 : s.data.toList.getD 0 0 = s[0]'z0 := by
    rw [List.getD_eq_getElem?_getD, List.getElem?_eq_getElem (by simpa using z0)]; rfl
  have hks : keyedS s = (decide (97 ≤ (s[0]'z0).toNat ∧ (s[0]'z0).toNat ≤ 122) && s.data.toList.all keyB) := by unfold keyedS; rw [hx0]; simp [h0, h1]
  clear hx0 h0
  by_cases h3 : 97 ≤ (s[0]'z0).toNat
  case neg =>
    have HP := Lib.hid (show keyedS s = false by rw [hks]; simp [h3])
    have h4 : (((s[0]'z0).toNat : Int) < 97) = True := eq_true (by omega)
    clear hks h1 h3
    go_enter Tryd.func52, Tryd.ntmps52
    go_wp2_with fail
    go_ret
    exact ⟨by rw [HP.out]; rfl, Kept.refl _ _⟩
  have h4 : (((s[0]'z0).toNat : Int) < 97) = False := eq_false (by omega)
  by_cases h5 : (s[0]'z0).toNat ≤ 122
  case neg =>
    have HP := Lib.hid (show keyedS s = false by rw [hks]; simp [h5])
    have h6 : ((122 : Int) < ((s[0]'z0).toNat : Int)) = True := eq_true (by omega)
    clear hks h1 h3 h5
    go_enter Tryd.func52, Tryd.ntmps52
    go_wp2_with fail
    go_ret
    exact ⟨by rw [HP.out]; rfl, Kept.refl _ _⟩
  have h6 : ((122 : Int) < ((s[0]'z0).toNat : Int)) = False := eq_false (by omega)
  have HP := Lib.hid (show keyedS s = s.data.toList.all keyB by rw [hks]; simp [h3, h5])
  clear hks h1 h3 h5
  go_enter Tryd.func52, Tryd.ntmps52
  go_wp2_with fail
  go_loopw [23] (fun i wr => ∃ k : Nat, i = .int .i64 k ∧ k ≤ s.size ∧ keyedS s = ((s.data.toList.drop k).all keyB) ∧ wr = w) (fun i _ => s.size - (intOf i).toNat)
  case atStart => exact ⟨0, rfl, by omega, by simp [HP.out], rfl⟩
  case round =>
    obtain ⟨k, rfl, hk, ho, rfl⟩ := hrel
    have k0 : (0 : Int) ≤ k := by omega
    by_cases h : k < s.size
    · have k1 : (k : Int) < s.size := by omega
      have hx : s.data.toList[k]? = some (s[k]'h) := by
        rw [List.getElem?_eq_getElem (by simpa using h)]; rfl
      rw [all_drop hx] at ho
      have hext : s.extract k (k + 1) = ⟨#[s[k]'h]⟩ := by
        apply ByteArray.ext
        rw [ByteArray.data_extract]
        apply Array.ext'
        simp only [Array.toList_extract, List.extract_eq_take_drop]
        rw [drop_get' hx]
        simp
      have HX := Lib.hid hext
      have htab := keyB_table (s[k]'h)
      have HT := Lib.hid htab
      clear hx hext htab
      cases hb : keyB (s[k]'h) with
      | false =>
        have HO : Hid (keyedS s = false) := Lib.hid (by rw [ho, hb]; rfl)
        rw [hb] at HT
        clear ho hb
        go_wp2_with (go_at_call 79; rw [HX.out]; refine (Tryd.strings_Contains_one _ (s[k]'h) _).mono ?_; rintro e w' ⟨rfl, rfl⟩; rw [HT.out])
        go_ret
        exact ⟨by rw [HO.out]; rfl, Kept.refl _ _⟩
      | true =>
        have HO : Hid (keyedS s = ((s.data.toList.drop (k + 1)).all keyB)) := Lib.hid (by rw [ho, hb]; rfl)
        rw [hb] at HT
        clear ho hb
        go_wp2_with (go_at_call 79; rw [HX.out]; refine (Tryd.strings_Contains_one _ (s[k]'h) _).mono ?_; rintro e w' ⟨rfl, rfl⟩; rw [HT.out])
        exact ⟨⟨k + 1, by congr 1, by omega, HO.out, trivial⟩, by simp [intOf]; omega⟩
    · have k1 : ¬ (k : Int) < s.size := by omega
      have HO : Hid (keyedS s = true) := Lib.hid (by rw [ho, List.drop_eq_nil_of_le (by simp; omega)]; rfl)
      clear ho h
      go_wp2_with fail
      go_ret
      exact ⟨by rw [HO.out]; rfl, Kept.refl _ _⟩
end Go.Proofs.YtniigjfimggobaaDoor
