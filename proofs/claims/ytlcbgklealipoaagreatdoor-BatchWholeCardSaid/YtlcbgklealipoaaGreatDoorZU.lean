import Derived.Test.YtlcbgklealipoaaGreatDoorZT
import Derived.Test.YtlcbgklealipoaaGreatDoorZS
import Derived.Test.YtlcbgklealipoaaGreatDoorRt
import Derived.Test.YtlcbgklealipoaaGreatDoorShelf
section
/- Check: plain, keyed, valued (the walks). -/
namespace Go.Proofs.YtlcbgklealipoaaGreatDoor
open Go.RowKit
set_option linter.unusedVariables false
set_option linter.unusedSimpArgs false

def BoolPost (b : Bool) (w : World) (e : Ending) (w' : World) : Prop := e = .returned (.bool b) ∧ Kept (fun _ => False) w w'
theorem empty_toList (s : ByteArray) : s.toList.isEmpty = decide (s.size = 0) := by
  rw [ByteArray.toList_eq]
  cases s with
  | mk d => cases d with
    | mk l => cases l <;> simp [ByteArray.size]
theorem drop_get' {α : Type} {l : List α} {k : Nat} {x : α} (h : l[k]? = some x) : l.drop k = x :: l.drop (k + 1) := by
  have h1 := (List.getElem?_eq_some_iff.1 h).1
  have h2 := (List.getElem?_eq_some_iff.1 h).2
  rw [← h2, ← List.drop_eq_getElem_cons h1]
theorem all_drop {p : UInt8 → Bool} {l : List UInt8} {k : Nat} {x : UInt8} (h : l[k]? = some x) : (l.drop k).all p = (p x && (l.drop (k + 1)).all p) := by
  have h1 := (List.getElem?_eq_some_iff.1 h).1
  have h2 := (List.getElem?_eq_some_iff.1 h).2
  rw [← h2, List.drop_eq_getElem_cons h1]; rfl

set_option maxHeartbeats 4000000 in
theorem plain_any (s : ByteArray) (most fr : Nat) (w : World) (hs : s.size ≤ 9223372036854775807) (hm : most ≤ 1000) (hf : fr ≤ 255) (hU : Lib.Utf8Tabs 1 2 w) : Calls Tryz.prog 74 #[.string s, .int .i64 most, .int .u8 fr] w (BoolPost (plainS s most fr) w) := by
  have HU := Lib.hid hU
  clear hU
  have hE := empty_toList s
  by_cases h0 : s.size = 0
  · have HP : Hid (plainS s most fr = false) := Lib.hid (by unfold plainS; simp [h0])
    rw [decide_eq_true h0] at hE
    clear h0
    go_enter Tryz.func74, Tryz.ntmps74
    go_wp2_with fail
    go_ret
    exact ⟨by rw [HP.out]; rfl, Kept.refl _ _⟩
  rw [decide_eq_false h0] at hE
  by_cases h1 : s.size ≤ most
  case neg =>
    have HP : Hid (plainS s most fr = false) := Lib.hid (by unfold plainS; simp [h1])
    have h2 : (most < s.size) = True := eq_true (by omega)
    clear h0 h1
    go_enter Tryz.func74, Tryz.ntmps74
    go_wp2_with fail
    go_ret
    exact ⟨by rw [HP.out]; rfl, Kept.refl _ _⟩
  have h2 : (most < s.size) = False := eq_false (by omega)
  cases hv : Lib.validD s.data.toList with
  | false =>
    have HP : Hid (plainS s most fr = false) := Lib.hid (by unfold plainS; simp [hv])
    have HV := Lib.hid hv
    clear h0 h1 hv
    go_enter Tryz.func74, Tryz.ntmps74
    go_wp2_with (go_at_call 121; refine (Tryz.utf8_ValidString s w (by omega) HU.out).mono ?_; rintro e w' ⟨rfl, hb⟩; rw [HV.out])
    go_ret
    exact ⟨by rw [HP.out]; rfl, Kept.of_below hb _⟩
  | true =>
    have HP : Hid (plainS s most fr = s.data.toList.all fun b => decide (fr ≤ b.toNat ∧ b.toNat ≠ 127)) := Lib.hid (by unfold plainS; simp [hv, h0, h1])
    have HV := Lib.hid hv
    clear h0 h1 hv
    go_enter Tryz.func74, Tryz.ntmps74
    go_wp2_with (go_at_call 121; refine (Tryz.utf8_ValidString s w (by omega) HU.out).mono ?_; rintro e w' ⟨rfl, hb⟩; rw [HV.out])
    have HB := Lib.hid (Kept.of_below hb (fun _ => False))
    clear hb
    go_loopw [23] (fun i wr => ∃ k : Nat, i = .int .i64 k ∧ k ≤ s.size ∧ plainS s most fr = ((s.data.toList.drop k).all fun b => decide (fr ≤ b.toNat ∧ b.toNat ≠ 127)) ∧ wr = w') (fun i _ => s.size - (intOf i).toNat)
    case atStart => exact ⟨0, rfl, by omega, by simp [HP.out], rfl⟩
    case round =>
      obtain ⟨k, rfl, hk, ho, rfl⟩ := hrel
      have k0 : (0 : Int) ≤ k := by omega
      by_cases h : k < s.size
      · have k1 : (k : Int) < s.size := by omega
        have hx : s.data.toList[k]? = some (s[k]'h) := by
          rw [List.getElem?_eq_getElem (by simpa using h)]; rfl
        rw [all_drop hx] at ho
        by_cases hb1 : fr ≤ (s[k]'h).toNat
        case neg =>
          have HO : Hid (plainS s most fr = false) := Lib.hid (by rw [ho]; simp [hb1])
          have b1 : ((s[k]'h).toNat < fr) = True := eq_true (by omega)
          clear ho hb1 hx
          go_wp2_with fail
          go_ret
          exact ⟨by rw [HO.out]; rfl, HB.out⟩
        have b1 : ((s[k]'h).toNat < fr) = False := eq_false (by omega)
        by_cases hb2 : (s[k]'h).toNat = 127
        case pos =>
          have HO : Hid (plainS s most fr = false) := Lib.hid (by rw [ho]; simp [hb2])
          have b2 : (((s[k]'h).toNat : Int) == 127) = true := by rw [hb2]; rfl
          clear ho hb1 hx hb2
          go_wp2_with fail
          go_ret
          exact ⟨by rw [HO.out]; rfl, HB.out⟩
        have b2 : (((s[k]'h).toNat : Int) == 127) = false := by simp; omega
        have HO : Hid (plainS s most fr = ((s.data.toList.drop (k + 1)).all fun b => decide (fr ≤ b.toNat ∧ b.toNat ≠ 127))) := Lib.hid (by rw [ho]; simp [hb2, hb1])
        clear ho hb1 hx hb2
        go_wp2_with fail
        exact ⟨⟨k + 1, by congr 1, by omega, HO.out, trivial⟩, by simp [intOf]; omega⟩
      · have k1 : ¬ (k : Int) < s.size := by omega
        have HO : Hid (plainS s most fr = true) := Lib.hid (by rw [ho, List.drop_eq_nil_of_le (by simp; omega)]; rfl)
        clear ho h
        go_wp2_with fail
        go_ret
        exact ⟨by rw [HO.out]; rfl, HB.out⟩
set_option maxHeartbeats 4000000 in
theorem valued_any (a : Atr) (w : World) (hs : a.t.size ≤ 9223372036854775807) (hU : Lib.Utf8Tabs 1 2 w) : Calls Tryz.prog 123 #[.agg #[.int .i64 a.k, .string a.t, .int .i64 a.i]] w (BoolPost (valuedS a) w) := by
  have HU := Lib.hid hU
  clear hU
  have hE := empty_toList a.t
  have hA : Kept (fun _ => False) w (w.alloc (.cells #[.int .i64 a.k, .string a.t, .int .i64 a.i] 130)) := .alloc _ _ _
  have HA := Lib.hid hA
  clear hA
  by_cases h0 : a.k = 0
  · have e0 : (a.k == 0) = true := by simp [h0]
    have hval : valuedS a = (decide (a.i = 0) && (decide (a.t.size ≤ 200) && Lib.validD a.t.data.toList)) := by unfold valuedS; rw [if_pos h0]
    clear h0
    by_cases h1 : a.i = 0
    case neg =>
      have e1 : (a.i == 0) = false := by simp [h1]
      have HO := Lib.hid (show valuedS a = false by rw [hval]; simp [h1])
      clear h1 hval
      go_enter Tryz.func123, Tryz.ntmps123
      go_wp2_with fail
      go_ret
      exact ⟨by rw [HO.out]; rfl, HA.out⟩
    have e1 : (a.i == 0) = true := by simp [h1]
    by_cases h2 : a.t.size ≤ 200
    case neg =>
      have e2 : ((a.t.size : Int) ≤ 200) = False := eq_false (by omega)
      have HO := Lib.hid (show valuedS a = false by rw [hval]; simp [h2])
      clear h1 hval h2
      go_enter Tryz.func123, Tryz.ntmps123
      go_wp2_with fail
      go_ret
      exact ⟨by rw [HO.out]; rfl, HA.out⟩
    have e2 : ((a.t.size : Int) ≤ 200) = True := eq_true (by omega)
    have HO := Lib.hid (show valuedS a = Lib.validD a.t.data.toList by rw [hval]; simp [h2, h1])
    clear h1 hval h2
    go_enter Tryz.func123, Tryz.ntmps123
    go_wp2_with (go_at_call 121; refine (Tryz.utf8_ValidString a.t _ (by omega) (Utf8Tabs.kept HU.out HA.out (fun h => h) (fun h => h))).mono ?_; rintro e w' ⟨rfl, hb⟩)
    go_ret
    exact ⟨by rw [HO.out]; rfl, HA.out.trans (Kept.of_below hb _) (fun _ _ e => e) (fun _ _ e => e)⟩
  have e0 : (a.k == 0) = false := by simp [h0]
  by_cases h1 : a.k = 1
  · have e1 : (a.k == 1) = true := by simp [h1]
    have HO := Lib.hid (show valuedS a = a.t.toList.isEmpty by unfold valuedS; rw [if_neg h0, if_pos h1, hE])
    clear h0 h1 hE
    go_enter Tryz.func123, Tryz.ntmps123
    go_wp2_with fail
    go_ret
    exact ⟨by rw [HO.out]; rfl, HA.out⟩
  have e1 : (a.k == 1) = false := by simp [h1]
  by_cases h2 : a.k = 2
  · have e2 : (a.k == 2) = true := by simp [h2]
    have hval : valuedS a = (decide (a.t.size = 0) && decide (a.i = 0 ∨ a.i = 1)) := by unfold valuedS; rw [if_neg h0, if_neg h1, if_pos h2]
    clear h0 h1 h2
    by_cases h3 : a.t.size = 0
    case neg =>
      rw [decide_eq_false h3] at hE
      have HO := Lib.hid (show valuedS a = false by rw [hval]; simp [h3])
      clear h3 hval
      go_enter Tryz.func123, Tryz.ntmps123
      go_wp2_with fail
      go_ret
      exact ⟨by rw [HO.out]; rfl, HA.out⟩
    rw [decide_eq_true h3] at hE
    by_cases h4 : a.i = 0
    · have e4 : (a.i == 0) = true := by simp [h4]
      have HO := Lib.hid (show valuedS a = true by rw [hval]; simp [h3, h4])
      clear h3 hval h4
      go_enter Tryz.func123, Tryz.ntmps123
      go_wp2_with fail
      go_ret
      exact ⟨by rw [HO.out]; rfl, HA.out⟩
    have e4 : (a.i == 0) = false := by simp [h4]
    have HO := Lib.hid (show valuedS a = (a.i == 1) by rw [hval]; simp [h3, h4]; rfl)
    clear h3 hval h4
    go_enter Tryz.func123, Tryz.ntmps123
    go_wp2_with fail
    go_ret
    exact ⟨by rw [HO.out]; rfl, HA.out⟩
  have e2 : (a.k == 2) = false := by simp [h2]
  have HO := Lib.hid (show valuedS a = false by unfold valuedS; rw [if_neg h0, if_neg h1, if_neg h2])
  clear h0 h1 h2
  go_enter Tryz.func123, Tryz.ntmps123
  go_wp2_with fail
  go_ret
  exact ⟨by rw [HO.out]; rfl, HA.out⟩

theorem keyB_table : ∀ c : UInt8, decide (0 ≤ Lib.indexByte [97, 98, 99, 100, 101, 102, 103, 104, 105, 106, 107, 108, 109, 110, 111, 112, 113, 114, 115, 116, 117, 118, 119, 120, 121, 122, 48, 49, 50, 51, 52, 53, 54, 55, 56, 57, 46, 95, 45] c) = keyB c := by
  have h : ∀ n : Fin 256, decide (0 ≤ Lib.indexByte [97, 98, 99, 100, 101, 102, 103, 104, 105, 106, 107, 108, 109, 110, 111, 112, 113, 114, 115, 116, 117, 118, 119, 120, 121, 122, 48, 49, 50, 51, 52, 53, 54, 55, 56, 57, 46, 95, 45] (UInt8.ofNat n)) = keyB (UInt8.ofNat n) := by decide +kernel
  intro c
  have := h ⟨c.toNat, c.toNat_lt⟩
  simpa using this
set_option maxHeartbeats 4000000 in
theorem keyed_any (s : ByteArray) (w : World) (hs : s.size ≤ 9223372036854775807) : Calls Tryz.prog 122 #[.string s] w (BoolPost (keyedS s) w) := by
  have hE := empty_toList s
  by_cases h0 : s.size = 0
  · have HP : Hid (keyedS s = false) := Lib.hid (by unfold keyedS; simp [h0])
    rw [decide_eq_true h0] at hE
    clear h0
    go_enter Tryz.func122, Tryz.ntmps122
    go_wp2_with fail
    go_ret
    exact ⟨by rw [HP.out]; rfl, Kept.refl _ _⟩
  rw [decide_eq_false h0] at hE
  have z0 : 0 < s.size := by omega
  by_cases h1 : s.size ≤ 40
  case neg =>
    have HP : Hid (keyedS s = false) := Lib.hid (by unfold keyedS; simp [h1])
    have h2 : (40 < (s.size : Int)) = True := eq_true (by omega)
    clear h0 h1
    go_enter Tryz.func122, Tryz.ntmps122
    go_wp2_with fail
    go_ret
    exact ⟨by rw [HP.out]; rfl, Kept.refl _ _⟩
  have h2 : (40 < (s.size : Int)) = False := eq_false (by omega)
  have hx0 : s.data.toList.getD 0 0 = s[0]'z0 := by
    rw [List.getD_eq_getElem?_getD, List.getElem?_eq_getElem (by simpa using z0)]; rfl
  have hks : keyedS s = (decide (97 ≤ (s[0]'z0).toNat ∧ (s[0]'z0).toNat ≤ 122) && s.data.toList.all keyB) := by unfold keyedS; rw [hx0]; simp [h0, h1]
  clear hx0 h0
  by_cases h3 : 97 ≤ (s[0]'z0).toNat
  case neg =>
    have HP := Lib.hid (show keyedS s = false by rw [hks]; simp [h3])
    have h4 : (((s[0]'z0).toNat : Int) < 97) = True := eq_true (by omega)
    clear hks h1 h3
    go_enter Tryz.func122, Tryz.ntmps122
    go_wp2_with fail
    go_ret
    exact ⟨by rw [HP.out]; rfl, Kept.refl _ _⟩
  have h4 : (((s[0]'z0).toNat : Int) < 97) = False := eq_false (by omega)
  by_cases h5 : (s[0]'z0).toNat ≤ 122
  case neg =>
    have HP := Lib.hid (show keyedS s = false by rw [hks]; simp [h5])
    have h6 : ((122 : Int) < ((s[0]'z0).toNat : Int)) = True := eq_true (by omega)
    clear hks h1 h3 h5
    go_enter Tryz.func122, Tryz.ntmps122
    go_wp2_with fail
    go_ret
    exact ⟨by rw [HP.out]; rfl, Kept.refl _ _⟩
  have h6 : ((122 : Int) < ((s[0]'z0).toNat : Int)) = False := eq_false (by omega)
  have HP := Lib.hid (show keyedS s = s.data.toList.all keyB by rw [hks]; simp [h3, h5])
  clear hks h1 h3 h5
  go_enter Tryz.func122, Tryz.ntmps122
  go_wp2_with fail
  go_loopw [23] (fun i wr => ∃ k : Nat, i = .int .i64 k ∧ k ≤ s.size ∧ keyedS s = ((s.data.toList.drop k).all keyB) ∧ wr = w) (fun i _ => s.size - (intOf i).toNat)
  case atStart => exact ⟨0, rfl, by omega, by simp [HP.out], rfl⟩
  case round =>
    obtain ⟨k, rfl, hk, ho, rfl⟩ := hrel
    have k0 : (0 : Int) ≤ k := by omega
    by_cases h : k < s.size
    · have k1 : (k : Int) < s.size := by omega
      have hx : s.data.toList[k]? = some (s[k]'h) := by
        rw [List.getElem?_eq_getElem (by simpa using h)]; rfl
      rw [all_drop hx] at ho
      have hext : s.extract k (k + 1) = ⟨#[s[k]'h]⟩ := by
        apply ByteArray.ext
        rw [ByteArray.data_extract]
        apply Array.ext'
        simp only [Array.toList_extract, List.extract_eq_take_drop]
        rw [drop_get' hx]
        simp
      have HX := Lib.hid hext
      have htab := keyB_table (s[k]'h)
      have HT := Lib.hid htab
      clear hx hext htab
      cases hb : keyB (s[k]'h) with
      | false =>
        have HO : Hid (keyedS s = false) := Lib.hid (by rw [ho, hb]; rfl)
        rw [hb] at HT
        clear ho hb
        go_wp2_with (go_at_call 138; rw [HX.out]; refine (Tryz.strings_Contains_one _ (s[k]'h) _).mono ?_; rintro e w' ⟨rfl, rfl⟩; rw [HT.out])
        go_ret
        exact ⟨by rw [HO.out]; rfl, Kept.refl _ _⟩
      | true =>
        have HO : Hid (keyedS s = ((s.data.toList.drop (k + 1)).all keyB)) := Lib.hid (by rw [ho, hb]; rfl)
        rw [hb] at HT
        clear ho hb
        go_wp2_with (go_at_call 138; rw [HX.out]; refine (Tryz.strings_Contains_one _ (s[k]'h) _).mono ?_; rintro e w' ⟨rfl, rfl⟩; rw [HT.out])
        exact ⟨⟨k + 1, by congr 1, by omega, HO.out, trivial⟩, by simp [intOf]; omega⟩
    · have k1 : ¬ (k : Int) < s.size := by omega
      have HO : Hid (keyedS s = true) := Lib.hid (by rw [ho, List.drop_eq_nil_of_le (by simp; omega)]; rfl)
      clear ho h
      go_wp2_with fail
      go_ret
      exact ⟨by rw [HO.out]; rfl, Kept.refl _ _⟩
end Go.Proofs.YtlcbgklealipoaaGreatDoor
end

section
/- Check: linked, carried, told (the walks). -/
namespace Go.Proofs.YtlcbgklealipoaaGreatDoor
open Go.RowKit
set_option linter.unusedVariables false
set_option linter.unusedSimpArgs false

set_option maxHeartbeats 4000000 in
theorem linked_any (s : Spn) (lv av ev : Value) (w : World) (hs : SReads w s lv av ev) : Calls Tryz.prog 75 #[.agg (s.cells lv av ev)] w (BoolPost (linkedS s) w) := by
  obtain ⟨X, hX⟩ : ∃ X, X = s.cells lv av ev := ⟨_, rfl⟩
  obtain ⟨W, hW⟩ : ∃ W, W = w.alloc (.cells X 76) := ⟨_, rfl⟩
  have hk : Kept (fun _ => False) w W := by rw [hW]; exact .alloc _ _ _
  have hb : W.heap[w.heap.size]? = some (.cells X 76 (0, 0)) := by rw [hW]; exact heap_alloc_new w _
  have hL := hs.links.kept hk
  have hl0 := hs.l0
  obtain ⟨A, c, rfl, hca⟩ := hL
  have c2 : W.cell? ⟨w.heap.size, 2, none⟩ = some (.int .u64 s.id) := (blk_cell hb 2).trans (by rw [hX]; rfl)
  have c4 : W.cell? ⟨w.heap.size, 4, none⟩ = some (.slice A s.links.length c) := (blk_cell hb 4).trans (by rw [hX]; rfl)
  have hW2 := hW.symm
  rw [← hX]
  have HC := Lib.hid hca
  have HK := Lib.hid hk
  clear hca hW hX hb hs hk
  have hdef : linkedS s = (risesS s.id 0 s.links && decide (s.links.length ≤ 16)) := rfl
  go_enter Tryz.func75, Tryz.ntmps75
  go_wp2_with fail
  go_loopw [3, 9] (fun t i wr => ∃ (k last : Nat), i = .int .i64 k ∧ t = .int .u64 last ∧ k ≤ s.links.length ∧ risesS s.id 0 s.links = risesS s.id last (s.links.drop k) ∧ wr = W) (fun t i _ => s.links.length - (intOf i).toNat)
  case atStart => exact ⟨0, 0, rfl, rfl, by omega, by simp, rfl⟩
  case round =>
    obtain ⟨k, last, rfl, rfl, hk, ho, rfl⟩ := hrel
    have k0 : (0 : Int) ≤ k := by omega
    by_cases h : k < s.links.length
    · obtain ⟨x, hx⟩ : ∃ x, s.links[k]? = some x := ⟨_, List.getElem?_eq_getElem h⟩
      obtain ⟨b, off, rfl, hcs⟩ := HC.out (by omega)
      have hcell := hcs k x hx
      have k1 : (k : Int) < s.links.length := by omega
      rw [drop_get' hx] at ho
      have ho2 : risesS s.id 0 s.links = (decide (last < x ∧ x ≠ s.id) && risesS s.id x (s.links.drop (k + 1))) := ho
      clear ho
      by_cases e1 : last < x
      case neg =>
        have HO := Lib.hid (show linkedS s = false by rw [hdef, ho2]; simp [e1])
        have f1 : (x ≤ last) = True := eq_true (by omega)
        clear ho2 hx hcs hdef
        go_wp2_with fail
        go_ret
        exact ⟨by rw [HO.out]; rfl, HK.out⟩
      have f1 : (x ≤ last) = False := eq_false (by omega)
      by_cases e2 : x = s.id
      case pos =>
        have HO := Lib.hid (show linkedS s = false by rw [hdef, ho2]; simp [e2])
        have f2 : ((x : Int) == s.id) = true := by rw [e2]; simp
        have E2 := Lib.hid e2
        clear ho2 hx hcs hdef e2
        go_wp2_with fail
        go_ret
        exact ⟨by rw [HO.out]; rfl, HK.out⟩
      have f2 : ((x : Int) == s.id) = false := by simp; omega
      have HO := Lib.hid (show risesS s.id 0 s.links = risesS s.id x (s.links.drop (k + 1)) by rw [ho2]; simp [e1, e2])
      clear ho2 hx hcs e2
      go_wp2_with fail
      exact ⟨⟨k + 1, x, by congr 1, rfl, by omega, HO.out, trivial⟩, by simp [intOf]; omega⟩
    · have k1 : ¬ (k : Int) < s.links.length := by omega
      have HO := Lib.hid (show linkedS s = decide ((s.links.length : Int) ≤ 16) by
        have e : decide ((s.links.length : Int) ≤ 16) = decide (s.links.length ≤ 16) := decide_eq_decide.2 (by omega)
        rw [e, hdef, ho, List.drop_eq_nil_of_le (by omega)]; rfl)
      clear ho h hdef
      go_wp2_with fail
      go_ret
      exact ⟨by rw [HO.out]; rfl, HK.out⟩

theorem less_c : ∀ (a b : List UInt8), Op.bytesLess a b = decide (Lib.compareBytes a b < 0)
  | [], [] => rfl
  | [], _ :: _ => rfl
  | _ :: _, [] => rfl
  | a :: x, b :: y => by
    simp only [Op.bytesLess, Lib.compareBytes]
    by_cases h1 : a < b
    · simp [h1]
    · by_cases h2 : b < a
      · have h3 : a ≠ b := fun e => by subst e; exact h1 h2
        simp [h1, h2, h3]
      · have h3 : a = b := by
          have g1 : ¬ a.toNat < b.toNat := fun h => h1 (UInt8.lt_iff_toNat_lt.2 h)
          have g2 : ¬ b.toNat < a.toNat := fun h => h2 (UInt8.lt_iff_toNat_lt.2 h)
          exact UInt8.toNat_inj.1 (by omega)
        subst h3
        simp [h1, less_c x y]
theorem less_str (a b : ByteArray) : Op.bytesLess a.toList b.toList = decide (strC a b < 0) := by
  rw [ByteArray.toList_eq, ByteArray.toList_eq]; exact less_c _ _
def prevOf {α : Type} (l : List α) (k : Nat) : Option α := if k = 0 then none else l[k - 1]?
set_option maxHeartbeats 4000000 in
theorem carried_any (l : List Atr) (v : Value) (w : World) (hl : TReads w v l) (h0 : l.length ≤ 9223372036854775807) (hz : ∀ x ∈ l, x.key.size ≤ 9223372036854775807 ∧ x.t.size ≤ 9223372036854775807) (hU : Lib.Utf8Tabs 1 2 w) : Calls Tryz.prog 76 #[v] w (BoolPost (carriedS l) w) := by
  have hdef : carriedS l = (carriesS none l && decide (l.length ≤ 32)) := rfl
  have hl2 := hl
  obtain ⟨A, c, rfl, -⟩ := hl2
  have HL := Lib.hid hl
  have HU := Lib.hid hU
  clear hl hU
  go_enter Tryz.func76, Tryz.ntmps76
  go_wp2_with fail
  go_loopw [7] (fun i wr => ∃ (k : Nat), i = .int .i64 k ∧ k ≤ l.length ∧ carriesS none l = carriesS (prevOf l k) (l.drop k) ∧ Kept (fun _ => False) w wr) (fun i _ => l.length - (intOf i).toNat)
  case atStart => exact ⟨0, rfl, by omega, by simp [prevOf], Kept.refl _ _⟩
  case round =>
    obtain ⟨k, rfl, hk, ho, hkw⟩ := hrel
    have k0 : (0 : Int) ≤ k := by omega
    by_cases h : k < l.length
    · obtain ⟨x, hx⟩ : ∃ x, l[k]? = some x := ⟨_, List.getElem?_eq_getElem h⟩
      have hT := HL.out.kept hkw
      obtain ⟨A', c', hA', hca⟩ := id hT
      injection hA' with ea _ ec
      subst ea ec
      obtain ⟨b, off, rfl, hcs⟩ := hca (by omega)
      obtain ⟨c0, c1, c2, c3⟩ := hcs k x hx
      have k1 : (k : Int) < l.length := by omega
      obtain ⟨W, hW⟩ : ∃ W, W = wr.alloc (.cells #[.string x.key, .int .i64 x.k, .string x.t, .int .i64 x.i] 132) := ⟨_, rfl⟩
      have hkW : Kept (fun _ => False) wr W := by rw [hW]; exact .alloc _ _ _
      have hb : W.heap[wr.heap.size]? = some (.cells #[.string x.key, .int .i64 x.k, .string x.t, .int .i64 x.i] 132 (0, 0)) := by rw [hW]; exact heap_alloc_new wr _
      have hT2 := hT.kept hkW
      have a0 : W.cell? ⟨wr.heap.size, 0, none⟩ = some (.string x.key) := (blk_cell hb 0).trans rfl
      have a1 : W.cell? ⟨wr.heap.size, 1, none⟩ = some (.int .i64 x.k) := (blk_cell hb 1).trans rfl
      have a2 : W.cell? ⟨wr.heap.size, 2, none⟩ = some (.string x.t) := (blk_cell hb 2).trans rfl
      have a3 : W.cell? ⟨wr.heap.size, 3, none⟩ = some (.int .i64 x.i) := (blk_cell hb 3).trans rfl
      have A0 := fun p : Later W => p.cell a0
      have A1 := fun p : Later W => p.cell a1
      have A2 := fun p : Later W => p.cell a2
      have A3 := fun p : Later W => p.cell a3
      have hW2 := hW.symm
      have HX := Lib.hid hx
      have HKW := Lib.hid (hkw.trans hkW (fun _ _ e => e) (fun _ _ e => e))
      have cK := fun p : Later W => Calls.later_of (keyed_any x.key p.w' (hz x (List.mem_of_getElem? hx)).1)
      have cV := fun p : Later W => Calls.later_of (valued_any x p.w' (hz x (List.mem_of_getElem? hx)).2 (Utf8Tabs.kept HU.out (p.old HKW.out) (fun h => h) (fun h => h)))
      have HC := Lib.hid (And.intro cK cV)
      have hst : carriesS none l = ((keyedS x.key && valuedS x && (match prevOf l k with | none => true | some y => decide (strC y.key x.key < 0))) && carriesS (some x) (l.drop (k + 1))) := by
        rw [ho, drop_get' hx]
        cases prevOf l k <;> rfl
      clear hx hcs hca hT hkw hkW a0 a1 a2 a3 hW cK cV hb ho
      cases hke : keyedS x.key with
      | false =>
        have HO := Lib.hid (show carriedS l = false by rw [hdef, hst, hke]; rfl)
        rw [hke] at HC
        clear hst hke hdef hT2
        go_wp2_with fail
        refine wp_region_later (by kernel_rfl) (by kernel_rfl) ?_
        repeat (go_big_quiet_step (first | exact HC.out.1 _ | exact HC.out.2 _))
        refine wpQuiet_nil ?_
        intro p
        go_wp2_with fail
        go_ret
        exact ⟨by rw [HO.out]; rfl, p.old HKW.out⟩
      | true =>
        cases hva : valuedS x with
        | false =>
          have HO := Lib.hid (show carriedS l = false by rw [hdef, hst, hke, hva]; rfl)
          rw [hke, hva] at HC
          clear hst hke hva hdef hT2
          go_wp2_with fail
          refine wp_region_later (by kernel_rfl) (by kernel_rfl) ?_
          repeat (go_big_quiet_step (first | exact HC.out.1 _ | exact HC.out.2 _))
          refine wpQuiet_nil ?_
          intro p
          go_wp2_with fail
          go_ret
          exact ⟨by rw [HO.out]; rfl, p.old HKW.out⟩
        | true =>
          rw [hke, hva] at HC
          rw [hke, hva] at hst
          have hnx : prevOf l (k + 1) = some x := by unfold prevOf; rw [if_neg (by omega)]; exact HX.out
          by_cases hk0 : k = 0
          · have HO := Lib.hid (show carriesS none l = carriesS (prevOf l (k + 1)) (l.drop (k + 1)) by rw [hst, hnx]; unfold prevOf; rw [if_pos hk0]; rfl)
            have HD := Lib.hid hdef
            have e0 : (0 < k) = False := eq_false (by omega)
            clear hst hke hva hdef hT2 hk0 hnx
            go_wp2_with fail
            refine wp_region_later (by kernel_rfl) (by kernel_rfl) ?_
            repeat (go_big_quiet_step (first | exact HC.out.1 _ | exact HC.out.2 _))
            refine wpQuiet_nil ?_
            intro p
            go_wp2_with fail
            exact ⟨⟨k + 1, by congr 1, by omega, HO.out, p.old HKW.out⟩, by simp [intOf]; omega⟩
          · obtain ⟨j, hj⟩ : ∃ j, k = j + 1 := ⟨k - 1, by omega⟩
            obtain ⟨y, hy⟩ : ∃ y, l[j]? = some y := ⟨_, List.getElem?_eq_getElem (by omega)⟩
            have hpv : prevOf l k = some y := by unfold prevOf; rw [if_neg hk0, hj]; exact hy
            have hst2 : carriesS none l = (decide (strC y.key x.key < 0) && carriesS (prevOf l (k + 1)) (l.drop (k + 1))) := by rw [hst, hnx, hpv]; rfl
            have hbl := less_str y.key x.key
            obtain ⟨A2', c2', hA2, hca2⟩ := id hT2
            injection hA2 with ea2 _ ec2
            subst ea2 ec2
            obtain ⟨b2, off2, hbo, hcs2⟩ := hca2 (by omega)
            injection hbo with hbo
            injection hbo with hb1 hb2 hb3
            subst hb1 hb2
            have B0 := fun p : Later W => p.cell (hcs2 j y hy).1
            have e0 : (0 < k) = True := eq_true (by omega)
            have e1 : (k : Int) - 1 = j := by omega
            have j0 : (0 : Int) ≤ j := by omega
            have j1 : (j : Int) < l.length := by omega
            have HD := Lib.hid hdef
            cases hd : decide (strC y.key x.key < 0) with
            | false =>
              have HO := Lib.hid (show carriedS l = false by rw [hdef, hst2, hd]; rfl)
              rw [hd] at hbl
              clear hst hst2 hke hva hdef hT2 hcs2 hca2 hpv hnx hk0 hj hy hd HD
              go_wp2_with fail
              refine wp_region_later (by kernel_rfl) (by kernel_rfl) ?_
              repeat (go_big_quiet_step (first | exact HC.out.1 _ | exact HC.out.2 _))
              refine wpQuiet_nil ?_
              intro p
              go_wp2_with fail
              go_ret
              exact ⟨by rw [HO.out]; rfl, p.old HKW.out⟩
            | true =>
              have HO := Lib.hid (show carriesS none l = carriesS (prevOf l (k + 1)) (l.drop (k + 1)) by rw [hst2, hd]; rfl)
              rw [hd] at hbl
              clear hst hst2 hke hva hdef hT2 hcs2 hca2 hpv hnx hk0 hj hy hd
              go_wp2_with fail
              refine wp_region_later (by kernel_rfl) (by kernel_rfl) ?_
              repeat (go_big_quiet_step (first | exact HC.out.1 _ | exact HC.out.2 _))
              refine wpQuiet_nil ?_
              intro p
              go_wp2_with fail
              exact ⟨⟨k + 1, by congr 1, by omega, HO.out, p.old HKW.out⟩, by simp [intOf]; omega⟩
    · have k1 : ¬ (k : Int) < l.length := by omega
      have HO := Lib.hid (show carriedS l = decide ((l.length : Int) ≤ 32) by
        have e : decide ((l.length : Int) ≤ 32) = decide (l.length ≤ 32) := decide_eq_decide.2 (by omega)
        rw [e, hdef, ho, List.drop_eq_nil_of_le (by omega)]; rfl)
      have HKW := Lib.hid hkw
      clear ho h hdef hkw
      go_wp2_with fail
      go_ret
      exact ⟨by rw [HO.out]; rfl, HKW.out⟩

set_option maxHeartbeats 4000000 in
theorem told_any (l : List Evt) (v : Value) (w : World) (hl : EReads w v l) (h0 : l.length ≤ 9223372036854775807) (hz : ∀ x ∈ l, x.n.size ≤ 9223372036854775807) (hU : Lib.Utf8Tabs 1 2 w) : Calls Tryz.prog 77 #[v] w (BoolPost (toldS l) w) := by
  have hdef : toldS l = (tellsS none l && decide (l.length ≤ 32)) := rfl
  have hl2 := hl
  obtain ⟨A, c, rfl, -⟩ := hl2
  have HL := Lib.hid hl
  have HU := Lib.hid hU
  clear hl hU
  go_enter Tryz.func77, Tryz.ntmps77
  go_wp2_with fail
  go_loopw [7] (fun i wr => ∃ (k : Nat), i = .int .i64 k ∧ k ≤ l.length ∧ tellsS none l = tellsS (prevOf l k) (l.drop k) ∧ Kept (fun _ => False) w wr) (fun i _ => l.length - (intOf i).toNat)
  case atStart => exact ⟨0, rfl, by omega, by simp [prevOf], Kept.refl _ _⟩
  case round =>
    obtain ⟨k, rfl, hk, ho, hkw⟩ := hrel
    have k0 : (0 : Int) ≤ k := by omega
    by_cases h : k < l.length
    · obtain ⟨x, hx⟩ : ∃ x, l[k]? = some x := ⟨_, List.getElem?_eq_getElem h⟩
      have hT := HL.out.kept hkw
      obtain ⟨A', c', hA', hca⟩ := id hT
      injection hA' with ea _ ec
      subst ea ec
      obtain ⟨b, off, rfl, hcs⟩ := hca (by omega)
      obtain ⟨c0, c1⟩ := hcs k x hx
      have k1 : (k : Int) < l.length := by omega
      obtain ⟨W, hW⟩ : ∃ W, W = wr.alloc (.cells #[.int .i64 x.at_, .string x.n] 134) := ⟨_, rfl⟩
      have hkW : Kept (fun _ => False) wr W := by rw [hW]; exact .alloc _ _ _
      have hb : W.heap[wr.heap.size]? = some (.cells #[.int .i64 x.at_, .string x.n] 134 (0, 0)) := by rw [hW]; exact heap_alloc_new wr _
      have hT2 := hT.kept hkW
      have a0 : W.cell? ⟨wr.heap.size, 0, none⟩ = some (.int .i64 x.at_) := (blk_cell hb 0).trans rfl
      have a1 : W.cell? ⟨wr.heap.size, 1, none⟩ = some (.string x.n) := (blk_cell hb 1).trans rfl
      have A0 := fun p : Later W => p.cell a0
      have A1 := fun p : Later W => p.cell a1
      have hW2 := hW.symm
      have HX := Lib.hid hx
      have HKW := Lib.hid (hkw.trans hkW (fun _ _ e => e) (fun _ _ e => e))
      have cP := fun p : Later W => Calls.later_of (plain_any x.n 100 32 p.w' (hz x (List.mem_of_getElem? hx)) (by omega) (by omega) (Utf8Tabs.kept HU.out (p.old HKW.out) (fun h => h) (fun h => h)))
      have cE := fun (y : Evt) (p : Later W) => Calls.later_of (events_any y x p.w')
      have HC := Lib.hid (And.intro cP cE)
      have hst : tellsS none l = ((decide (0 ≤ x.at_ ∧ x.at_ ≤ 4611686018427387904) && plainS x.n 100 32 && (match prevOf l k with | none => true | some y => decide (evtC y x < 0))) && tellsS (some x) (l.drop (k + 1))) := by
        rw [ho, drop_get' hx]
        cases prevOf l k <;> rfl
      clear hx hcs hca hT hkw hkW a0 a1 hW cP cE hb ho
      by_cases e1 : 0 ≤ x.at_
      case neg =>
        have HO := Lib.hid (show toldS l = false by rw [hdef, hst]; simp [e1])
        have f1 : (x.at_ < 0) = True := eq_true (by omega)
        clear hst hdef hT2 e1
        go_wp2_with fail
        refine wp_region_later (by kernel_rfl) (by kernel_rfl) ?_
        repeat (go_big_quiet_step (first | exact HC.out.1 _ | exact HC.out.2 _))
        refine wpQuiet_nil ?_
        intro p
        go_wp2_with fail
        go_ret
        exact ⟨by rw [HO.out]; rfl, p.old HKW.out⟩
      have f1 : (x.at_ < 0) = False := eq_false (by omega)
      by_cases e2 : x.at_ ≤ 4611686018427387904
      case neg =>
        have HO := Lib.hid (show toldS l = false by rw [hdef, hst]; simp [e2])
        have f2 : ((4611686018427387904 : Int) < x.at_) = True := eq_true (by omega)
        clear hst hdef hT2 e1 e2
        go_wp2_with fail
        refine wp_region_later (by kernel_rfl) (by kernel_rfl) ?_
        repeat (go_big_quiet_step (first | exact HC.out.1 _ | exact HC.out.2 _))
        refine wpQuiet_nil ?_
        intro p
        go_wp2_with fail
        go_ret
        exact ⟨by rw [HO.out]; rfl, p.old HKW.out⟩
      have f2 : ((4611686018427387904 : Int) < x.at_) = False := eq_false (by omega)
      rw [decide_eq_true (And.intro e1 e2)] at hst
      clear e1 e2
      cases hp : plainS x.n 100 32 with
      | false =>
        have HO := Lib.hid (show toldS l = false by rw [hdef, hst, hp]; simp)
        rw [hp] at HC
        clear hst hdef hT2 hp
        go_wp2_with fail
        refine wp_region_later (by kernel_rfl) (by kernel_rfl) ?_
        repeat (go_big_quiet_step (first | exact HC.out.1 _ | exact HC.out.2 _))
        refine wpQuiet_nil ?_
        intro p
        go_wp2_with fail
        go_ret
        exact ⟨by rw [HO.out]; rfl, p.old HKW.out⟩
      | true =>
        rw [hp] at HC hst
        have hnx : prevOf l (k + 1) = some x := by unfold prevOf; rw [if_neg (by omega)]; exact HX.out
        by_cases hk0 : k = 0
        · have HO := Lib.hid (show tellsS none l = tellsS (prevOf l (k + 1)) (l.drop (k + 1)) by rw [hst, hnx]; unfold prevOf; rw [if_pos hk0]; rfl)
          have HD := Lib.hid hdef
          have e0 : (0 < k) = False := eq_false (by omega)
          clear hst hp hdef hT2 hk0 hnx
          go_wp2_with fail
          refine wp_region_later (by kernel_rfl) (by kernel_rfl) ?_
          repeat (go_big_quiet_step (first | exact HC.out.1 _ | exact HC.out.2 _))
          refine wpQuiet_nil ?_
          intro p
          go_wp2_with fail
          exact ⟨⟨k + 1, by congr 1, by omega, HO.out, p.old HKW.out⟩, by simp [intOf]; omega⟩
        · obtain ⟨j, hj⟩ : ∃ j, k = j + 1 := ⟨k - 1, by omega⟩
          obtain ⟨y, hy⟩ : ∃ y, l[j]? = some y := ⟨_, List.getElem?_eq_getElem (by omega)⟩
          have hpv : prevOf l k = some y := by unfold prevOf; rw [if_neg hk0, hj]; exact hy
          have hst2 : tellsS none l = (decide (evtC y x < 0) && tellsS (prevOf l (k + 1)) (l.drop (k + 1))) := by rw [hst, hnx, hpv]; simp
          obtain ⟨A2', c2', hA2, hca2⟩ := id hT2
          injection hA2 with ea2 _ ec2
          subst ea2 ec2
          obtain ⟨b2, off2, hbo, hcs2⟩ := hca2 (by omega)
          injection hbo with hbo
          injection hbo with hb1 hb2 hb3
          subst hb1 hb2
          have B0 := fun p : Later W => p.cell (hcs2 j y hy).1
          have B1 := fun p : Later W => p.cell (hcs2 j y hy).2
          have e0 : (0 < k) = True := eq_true (by omega)
          have e1 : (k : Int) - 1 = j := by omega
          have j0 : (0 : Int) ≤ j := by omega
          have j1 : (j : Int) < l.length := by omega
          have HD := Lib.hid hdef
          have HE := Lib.hid (And.intro HC.out.1 (HC.out.2 y))
          clear HC
          have HC := HE
          clear HE
          by_cases hd : evtC y x < 0
          case neg =>
            have HO := Lib.hid (show toldS l = false by rw [hdef, hst2, decide_eq_false hd]; rfl)
            have f3 : (0 ≤ evtC y x) = True := eq_true (by omega)
            clear hst hst2 hp hdef hT2 hcs2 hca2 hpv hnx hk0 hj hy hd HD
            go_wp2_with fail
            refine wp_region_later (by kernel_rfl) (by kernel_rfl) ?_
            repeat (go_big_quiet_step (first | exact HC.out.1 _ | exact HC.out.2 _))
            refine wpQuiet_nil ?_
            intro p
            go_wp2_with fail
            go_ret
            exact ⟨by rw [HO.out]; rfl, p.old HKW.out⟩
          case pos =>
            have HO := Lib.hid (show tellsS none l = tellsS (prevOf l (k + 1)) (l.drop (k + 1)) by rw [hst2, decide_eq_true hd]; rfl)
            have f3 : (0 ≤ evtC y x) = False := eq_false (by omega)
            clear hst hst2 hp hdef hT2 hcs2 hca2 hpv hnx hk0 hj hy hd
            go_wp2_with fail
            refine wp_region_later (by kernel_rfl) (by kernel_rfl) ?_
            repeat (go_big_quiet_step (first | exact HC.out.1 _ | exact HC.out.2 _))
            refine wpQuiet_nil ?_
            intro p
            go_wp2_with fail
            exact ⟨⟨k + 1, by congr 1, by omega, HO.out, p.old HKW.out⟩, by simp [intOf]; omega⟩
    · have k1 : ¬ (k : Int) < l.length := by omega
      have HO := Lib.hid (show toldS l = decide ((l.length : Int) ≤ 32) by
        have e : decide ((l.length : Int) ≤ 32) = decide (l.length ≤ 32) := decide_eq_decide.2 (by omega)
        rw [e, hdef, ho, List.drop_eq_nil_of_le (by omega)]; rfl)
      have HKW := Lib.hid hkw
      clear ho h hdef hkw
      go_wp2_with fail
      go_ret
      exact ⟨by rw [HO.out]; rfl, HKW.out⟩
end Go.Proofs.YtlcbgklealipoaaGreatDoor
end

section
/- Check: what is wrong with a span (the walk). -/
namespace Go.Proofs.YtlcbgklealipoaaGreatDoor
open Go.RowKit
set_option linter.unusedVariables false
set_option linter.unusedSimpArgs false

/-- The texts of a span have sizes. -/
structure Sized (s : Spn) : Prop where
  svc : s.svc.size ≤ 9223372036854775807
  op : s.op.size ≤ 9223372036854775807
  ats : ∀ x ∈ s.ats, x.key.size ≤ 9223372036854775807 ∧ x.t.size ≤ 9223372036854775807
  evs : ∀ x ∈ s.evs, x.n.size ≤ 9223372036854775807

set_option maxHeartbeats 16000000 in
set_option maxRecDepth 100000 in
theorem check_any (s : Spn) (lv av ev : Value) (w : World) (hs : SReads w s lv av ev) (hz : Sized s) (hU : Lib.Utf8Tabs 1 2 w) : Calls Tryz.prog 32 #[.agg (s.cells lv av ev)] w (IntPost (checkS s) w) := by
  have hs0 := hs
  obtain ⟨⟨slA, slc, rfl, -⟩, ⟨saA, sac, rfl, -⟩, ⟨seA, sec, rfl, -⟩, -, -, -⟩ := hs
  obtain ⟨X, hX⟩ : ∃ X, X = s.cells (.slice slA s.links.length slc) (.slice saA s.ats.length sac) (.slice seA s.evs.length sec) := ⟨_, rfl⟩
  obtain ⟨W, hW⟩ : ∃ W, W = (w.alloc (.cells X 76)).alloc (.cells #[.int .u64 0, .int .u64 0] 68) := ⟨_, rfl⟩
  obtain ⟨hk, ha, hb⟩ := box2 w (.cells X 76) (.cells #[.int .u64 0, .int .u64 0] 68)
  rw [← hW] at hk ha hb
  rw [hX] at ha
  have a0 : W.cell? ⟨w.heap.size, 0, none⟩ = some (.int .u64 s.hi) := (blk_cell ha 0).trans rfl
  have A0 := fun p : Later W => p.cell a0
  have a1 : W.cell? ⟨w.heap.size, 1, none⟩ = some (.int .u64 s.lo) := (blk_cell ha 1).trans rfl
  have A1 := fun p : Later W => p.cell a1
  have a2 : W.cell? ⟨w.heap.size, 2, none⟩ = some (.int .u64 s.id) := (blk_cell ha 2).trans rfl
  have A2 := fun p : Later W => p.cell a2
  have a3 : W.cell? ⟨w.heap.size, 3, none⟩ = some (.int .u64 s.par) := (blk_cell ha 3).trans rfl
  have A3 := fun p : Later W => p.cell a3
  have a4 : W.cell? ⟨w.heap.size, 4, none⟩ = some (.slice slA s.links.length slc) := (blk_cell ha 4).trans rfl
  have A4 := fun p : Later W => p.cell a4
  have a5 : W.cell? ⟨w.heap.size, 5, none⟩ = some (.string s.svc) := (blk_cell ha 5).trans rfl
  have A5 := fun p : Later W => p.cell a5
  have a6 : W.cell? ⟨w.heap.size, 6, none⟩ = some (.string s.op) := (blk_cell ha 6).trans rfl
  have A6 := fun p : Later W => p.cell a6
  have a7 : W.cell? ⟨w.heap.size, 7, none⟩ = some (.int .i64 s.kind) := (blk_cell ha 7).trans rfl
  have A7 := fun p : Later W => p.cell a7
  have a8 : W.cell? ⟨w.heap.size, 8, none⟩ = some (.int .i64 s.st) := (blk_cell ha 8).trans rfl
  have A8 := fun p : Later W => p.cell a8
  have a9 : W.cell? ⟨w.heap.size, 9, none⟩ = some (.int .i64 s.start) := (blk_cell ha 9).trans rfl
  have A9 := fun p : Later W => p.cell a9
  have a10 : W.cell? ⟨w.heap.size, 10, none⟩ = some (.int .i64 s.fin) := (blk_cell ha 10).trans rfl
  have A10 := fun p : Later W => p.cell a10
  have a11 : W.cell? ⟨w.heap.size, 11, none⟩ = some (.slice saA s.ats.length sac) := (blk_cell ha 11).trans rfl
  have A11 := fun p : Later W => p.cell a11
  have a12 : W.cell? ⟨w.heap.size, 12, none⟩ = some (.slice seA s.evs.length sec) := (blk_cell ha 12).trans rfl
  have A12 := fun p : Later W => p.cell a12
  have b0 : W.cell? ⟨w.heap.size + 1, 0, none⟩ = some (.int .u64 0) := (blk_cell hb 0).trans rfl
  have B0 := fun p : Later W => p.cell b0
  have b1 : W.cell? ⟨w.heap.size + 1, 1, none⟩ = some (.int .u64 0) := (blk_cell hb 1).trans rfl
  have B1 := fun p : Later W => p.cell b1
  have HS := Lib.hid (And.intro (hs0.kept hk) hz)
  have HU := Lib.hid (Utf8Tabs.kept hU hk (fun h => h) (fun h => h))
  have HK := Lib.hid hk
  have fix : ∀ {f : FuncId} {args : Array Value} {v : Value} {p : Later W}, (Calls Tryz.prog f args p.w' fun e w1 => e = .returned v ∧ Kept (fun _ => False) p.w' w1) → Calls Tryz.prog f args p.w' fun e w2 => e = .returned v ∧ ∃ q : Later W, w2 = q.w' := fun h => Calls.later_of h
  have cP := fun (t : ByteArray) (n fr : Nat) (ht : t.size ≤ 9223372036854775807) (hn : n ≤ 1000) (hf : fr ≤ 255) (p : Later W) => fix (plain_any t n fr p.w' ht hn hf (Utf8Tabs.kept HU.out p.kept (fun h => h) (fun h => h)))
  have cL := fun p : Later W => fix (linked_any s _ _ _ p.w' (HS.out.1.kept p.kept))
  have cA := fun p : Later W => fix (carried_any s.ats _ p.w' (HS.out.1.ats.kept p.kept) HS.out.1.a0 HS.out.2.ats (Utf8Tabs.kept HU.out p.kept (fun h => h) (fun h => h)))
  have cE := fun p : Later W => fix (told_any s.evs _ p.w' (HS.out.1.evs.kept p.kept) HS.out.1.e0 HS.out.2.evs (Utf8Tabs.kept HU.out p.kept (fun h => h) (fun h => h)))
  have HP1 : Hid (∀ p : Later W, Calls Tryz.prog 74 #[.string s.svc, .int .i64 60, .int .u8 33] p.w' fun e w2 => e = .returned (.bool (plainS s.svc 60 33)) ∧ ∃ q : Later W, w2 = q.w') := Lib.hid (cP s.svc 60 33 hz.svc (by omega) (by omega))
  have HP2 : Hid (∀ p : Later W, Calls Tryz.prog 74 #[.string s.op, .int .i64 100, .int .u8 32] p.w' fun e w2 => e = .returned (.bool (plainS s.op 100 32)) ∧ ∃ q : Later W, w2 = q.w') := Lib.hid (cP s.op 100 32 hz.op (by omega) (by omega))
  have HL : Hid (∀ p : Later W, Calls Tryz.prog 75 #[.agg #[.int .u64 s.hi, .int .u64 s.lo, .int .u64 s.id, .int .u64 s.par, .slice slA s.links.length slc, .string s.svc, .string s.op, .int .i64 s.kind, .int .i64 s.st, .int .i64 s.start, .int .i64 s.fin, .slice saA s.ats.length sac, .slice seA s.evs.length sec]] p.w' fun e w2 => e = .returned (.bool (linkedS s)) ∧ ∃ q : Later W, w2 = q.w') := Lib.hid cL
  have HL0 : Hid (s.hi = 0 → ∀ p : Later W, Calls Tryz.prog 75 #[.agg #[.int .u64 0, .int .u64 s.lo, .int .u64 s.id, .int .u64 s.par, .slice slA s.links.length slc, .string s.svc, .string s.op, .int .i64 s.kind, .int .i64 s.st, .int .i64 s.start, .int .i64 s.fin, .slice saA s.ats.length sac, .slice seA s.evs.length sec]] p.w' fun e w2 => e = .returned (.bool (linkedS s)) ∧ ∃ q : Later W, w2 = q.w') := Lib.hid (fun h0 => by have h := HL.out; rw [h0] at h; exact h)
  have HA := Lib.hid cA
  have HE := Lib.hid cE
  obtain ⟨p0, hp0⟩ : ∃ p : Later W, W = p.w' := ⟨⟨W, Kept.refl _ _⟩, rfl⟩
  have hW2 := hW.symm.trans hp0
  rw [← hX]
  have HW := Lib.hid hW2
  clear hW2 fix cP cL cA cE ha hb hs0 hk hz hU hW hX hp0 a0 a1 a2 a3 a4 a5 a6 a7 a8 a9 a10 a11 a12 b0 b1
  have hd : checkS s = if (s.hi = 0 ∧ s.lo = 0) ∨ s.id = 0 then 41 else if s.start < 0 ∨ s.fin < s.start ∨ 4611686018427387904 < s.fin then 42 else if plainS s.svc 60 33 = false ∨ plainS s.op 100 32 = false then 43 else if s.kind < 0 ∨ 4 < s.kind ∨ s.st < 0 ∨ 2 < s.st then 44 else if linkedS s = false then 45 else if carriedS s.ats = false then 46 else if toldS s.evs = false then 47 else 0 := rfl
  by_cases n1 : s.hi = 0 ∧ s.lo = 0
  case pos =>
    have HO := Lib.hid (show checkS s = 41 by rw [hd]; simp [n1])
    clear hd
    go_enter Tryz.func32, Tryz.ntmps32
    go_upto_region 2 with fail
    rw [HW.out]
    go_wp2_with (first | (go_at_call 74; first | (with_reducible refine (HP1.out _).mono ?_); rintro e w' ⟨rfl, q, rfl⟩ | (with_reducible refine (HP2.out _).mono ?_); rintro e w' ⟨rfl, q, rfl⟩) | (go_at_call 75; first | (with_reducible refine (HL.out _).mono ?_); rintro e w' ⟨rfl, q, rfl⟩ | (with_reducible refine (HL0.out (by assumption) _).mono ?_); rintro e w' ⟨rfl, q, rfl⟩) | (go_at_call 76; with_reducible refine (HA.out _).mono ?_; rintro e w' ⟨rfl, q, rfl⟩) | (go_at_call 77; with_reducible refine (HE.out _).mono ?_; rintro e w' ⟨rfl, q, rfl⟩))
    all_goals (go_ret; exact ⟨by rw [HO.out]; rfl, Later.old _ HK.out⟩)
  have fn1 : (s.hi = 0 ∧ s.lo = 0) = False := eq_false n1
  by_cases n2 : s.id = 0
  case pos =>
    have fn2 : ((s.id : Int) == 0) = true := by rw [n2]; rfl
    have HO := Lib.hid (show checkS s = 41 by rw [hd]; simp [n1, n2])
    clear hd
    go_enter Tryz.func32, Tryz.ntmps32
    go_upto_region 2 with fail
    rw [HW.out]
    go_wp2_with (first | (go_at_call 74; first | (with_reducible refine (HP1.out _).mono ?_); rintro e w' ⟨rfl, q, rfl⟩ | (with_reducible refine (HP2.out _).mono ?_); rintro e w' ⟨rfl, q, rfl⟩) | (go_at_call 75; first | (with_reducible refine (HL.out _).mono ?_); rintro e w' ⟨rfl, q, rfl⟩ | (with_reducible refine (HL0.out (by assumption) _).mono ?_); rintro e w' ⟨rfl, q, rfl⟩) | (go_at_call 76; with_reducible refine (HA.out _).mono ?_; rintro e w' ⟨rfl, q, rfl⟩) | (go_at_call 77; with_reducible refine (HE.out _).mono ?_; rintro e w' ⟨rfl, q, rfl⟩))
    all_goals (go_ret; exact ⟨by rw [HO.out]; rfl, Later.old _ HK.out⟩)
  have fn2 : ((s.id : Int) == 0) = false := by simp; omega
  by_cases n3 : s.start < 0
  case pos =>
    have fn3 : (s.start < 0) = True := eq_true n3
    have HO := Lib.hid (show checkS s = 42 by rw [hd]; simp [n1, n2, n3])
    clear hd
    go_enter Tryz.func32, Tryz.ntmps32
    go_upto_region 2 with fail
    rw [HW.out]
    go_wp2_with (first | (go_at_call 74; first | (with_reducible refine (HP1.out _).mono ?_); rintro e w' ⟨rfl, q, rfl⟩ | (with_reducible refine (HP2.out _).mono ?_); rintro e w' ⟨rfl, q, rfl⟩) | (go_at_call 75; first | (with_reducible refine (HL.out _).mono ?_); rintro e w' ⟨rfl, q, rfl⟩ | (with_reducible refine (HL0.out (by assumption) _).mono ?_); rintro e w' ⟨rfl, q, rfl⟩) | (go_at_call 76; with_reducible refine (HA.out _).mono ?_; rintro e w' ⟨rfl, q, rfl⟩) | (go_at_call 77; with_reducible refine (HE.out _).mono ?_; rintro e w' ⟨rfl, q, rfl⟩))
    all_goals (go_ret; exact ⟨by rw [HO.out]; rfl, Later.old _ HK.out⟩)
  have fn3 : (s.start < 0) = False := eq_false n3
  by_cases n4 : s.fin < s.start
  case pos =>
    have fn4 : (s.fin < s.start) = True := eq_true n4
    have HO := Lib.hid (show checkS s = 42 by rw [hd]; simp [n1, n2, n3, n4])
    clear hd
    go_enter Tryz.func32, Tryz.ntmps32
    go_upto_region 2 with fail
    rw [HW.out]
    go_wp2_with (first | (go_at_call 74; first | (with_reducible refine (HP1.out _).mono ?_); rintro e w' ⟨rfl, q, rfl⟩ | (with_reducible refine (HP2.out _).mono ?_); rintro e w' ⟨rfl, q, rfl⟩) | (go_at_call 75; first | (with_reducible refine (HL.out _).mono ?_); rintro e w' ⟨rfl, q, rfl⟩ | (with_reducible refine (HL0.out (by assumption) _).mono ?_); rintro e w' ⟨rfl, q, rfl⟩) | (go_at_call 76; with_reducible refine (HA.out _).mono ?_; rintro e w' ⟨rfl, q, rfl⟩) | (go_at_call 77; with_reducible refine (HE.out _).mono ?_; rintro e w' ⟨rfl, q, rfl⟩))
    all_goals (go_ret; exact ⟨by rw [HO.out]; rfl, Later.old _ HK.out⟩)
  have fn4 : (s.fin < s.start) = False := eq_false n4
  by_cases n5 : 4611686018427387904 < s.fin
  case pos =>
    have fn5 : ((4611686018427387904 : Int) < s.fin) = True := eq_true n5
    have HO := Lib.hid (show checkS s = 42 by rw [hd]; simp [n1, n2, n3, n4, n5])
    clear hd
    go_enter Tryz.func32, Tryz.ntmps32
    go_upto_region 2 with fail
    rw [HW.out]
    go_wp2_with (first | (go_at_call 74; first | (with_reducible refine (HP1.out _).mono ?_); rintro e w' ⟨rfl, q, rfl⟩ | (with_reducible refine (HP2.out _).mono ?_); rintro e w' ⟨rfl, q, rfl⟩) | (go_at_call 75; first | (with_reducible refine (HL.out _).mono ?_); rintro e w' ⟨rfl, q, rfl⟩ | (with_reducible refine (HL0.out (by assumption) _).mono ?_); rintro e w' ⟨rfl, q, rfl⟩) | (go_at_call 76; with_reducible refine (HA.out _).mono ?_; rintro e w' ⟨rfl, q, rfl⟩) | (go_at_call 77; with_reducible refine (HE.out _).mono ?_; rintro e w' ⟨rfl, q, rfl⟩))
    all_goals (go_ret; exact ⟨by rw [HO.out]; rfl, Later.old _ HK.out⟩)
  have fn5 : ((4611686018427387904 : Int) < s.fin) = False := eq_false n5
  by_cases n6 : plainS s.svc 60 33 = false
  case pos =>
    rw [n6] at HP1
    have HO := Lib.hid (show checkS s = 43 by rw [hd]; simp [n1, n2, n3, n4, n5, n6])
    clear n6
    clear hd
    go_enter Tryz.func32, Tryz.ntmps32
    go_upto_region 2 with fail
    rw [HW.out]
    go_wp2_with (first | (go_at_call 74; first | (with_reducible refine (HP1.out _).mono ?_); rintro e w' ⟨rfl, q, rfl⟩ | (with_reducible refine (HP2.out _).mono ?_); rintro e w' ⟨rfl, q, rfl⟩) | (go_at_call 75; first | (with_reducible refine (HL.out _).mono ?_); rintro e w' ⟨rfl, q, rfl⟩ | (with_reducible refine (HL0.out (by assumption) _).mono ?_); rintro e w' ⟨rfl, q, rfl⟩) | (go_at_call 76; with_reducible refine (HA.out _).mono ?_; rintro e w' ⟨rfl, q, rfl⟩) | (go_at_call 77; with_reducible refine (HE.out _).mono ?_; rintro e w' ⟨rfl, q, rfl⟩))
    all_goals (go_ret; exact ⟨by rw [HO.out]; rfl, Later.old _ HK.out⟩)
  have hn6 := Bool.of_not_eq_false n6
  rw [hn6] at HP1
  by_cases n7 : plainS s.op 100 32 = false
  case pos =>
    rw [n7] at HP2
    have HO := Lib.hid (show checkS s = 43 by rw [hd]; simp [n1, n2, n3, n4, n5, hn6, n7])
    clear n7
    clear hd
    go_enter Tryz.func32, Tryz.ntmps32
    go_upto_region 2 with fail
    rw [HW.out]
    go_wp2_with (first | (go_at_call 74; first | (with_reducible refine (HP1.out _).mono ?_); rintro e w' ⟨rfl, q, rfl⟩ | (with_reducible refine (HP2.out _).mono ?_); rintro e w' ⟨rfl, q, rfl⟩) | (go_at_call 75; first | (with_reducible refine (HL.out _).mono ?_); rintro e w' ⟨rfl, q, rfl⟩ | (with_reducible refine (HL0.out (by assumption) _).mono ?_); rintro e w' ⟨rfl, q, rfl⟩) | (go_at_call 76; with_reducible refine (HA.out _).mono ?_; rintro e w' ⟨rfl, q, rfl⟩) | (go_at_call 77; with_reducible refine (HE.out _).mono ?_; rintro e w' ⟨rfl, q, rfl⟩))
    all_goals (go_ret; exact ⟨by rw [HO.out]; rfl, Later.old _ HK.out⟩)
  have hn7 := Bool.of_not_eq_false n7
  rw [hn7] at HP2
  by_cases n8 : s.kind < 0
  case pos =>
    have fn8 : (s.kind < 0) = True := eq_true n8
    have HO := Lib.hid (show checkS s = 44 by rw [hd]; simp [n1, n2, n3, n4, n5, hn6, hn7, n8])
    clear hd
    go_enter Tryz.func32, Tryz.ntmps32
    go_upto_region 2 with fail
    rw [HW.out]
    go_wp2_with (first | (go_at_call 74; first | (with_reducible refine (HP1.out _).mono ?_); rintro e w' ⟨rfl, q, rfl⟩ | (with_reducible refine (HP2.out _).mono ?_); rintro e w' ⟨rfl, q, rfl⟩) | (go_at_call 75; first | (with_reducible refine (HL.out _).mono ?_); rintro e w' ⟨rfl, q, rfl⟩ | (with_reducible refine (HL0.out (by assumption) _).mono ?_); rintro e w' ⟨rfl, q, rfl⟩) | (go_at_call 76; with_reducible refine (HA.out _).mono ?_; rintro e w' ⟨rfl, q, rfl⟩) | (go_at_call 77; with_reducible refine (HE.out _).mono ?_; rintro e w' ⟨rfl, q, rfl⟩))
    all_goals (go_ret; exact ⟨by rw [HO.out]; rfl, Later.old _ HK.out⟩)
  have fn8 : (s.kind < 0) = False := eq_false n8
  by_cases n9 : 4 < s.kind
  case pos =>
    have fn9 : ((4 : Int) < s.kind) = True := eq_true n9
    have HO := Lib.hid (show checkS s = 44 by rw [hd]; simp [n1, n2, n3, n4, n5, hn6, hn7, n8, n9])
    clear hd
    go_enter Tryz.func32, Tryz.ntmps32
    go_upto_region 2 with fail
    rw [HW.out]
    go_wp2_with (first | (go_at_call 74; first | (with_reducible refine (HP1.out _).mono ?_); rintro e w' ⟨rfl, q, rfl⟩ | (with_reducible refine (HP2.out _).mono ?_); rintro e w' ⟨rfl, q, rfl⟩) | (go_at_call 75; first | (with_reducible refine (HL.out _).mono ?_); rintro e w' ⟨rfl, q, rfl⟩ | (with_reducible refine (HL0.out (by assumption) _).mono ?_); rintro e w' ⟨rfl, q, rfl⟩) | (go_at_call 76; with_reducible refine (HA.out _).mono ?_; rintro e w' ⟨rfl, q, rfl⟩) | (go_at_call 77; with_reducible refine (HE.out _).mono ?_; rintro e w' ⟨rfl, q, rfl⟩))
    all_goals (go_ret; exact ⟨by rw [HO.out]; rfl, Later.old _ HK.out⟩)
  have fn9 : ((4 : Int) < s.kind) = False := eq_false n9
  by_cases n10 : s.st < 0
  case pos =>
    have fn10 : (s.st < 0) = True := eq_true n10
    have HO := Lib.hid (show checkS s = 44 by rw [hd]; simp [n1, n2, n3, n4, n5, hn6, hn7, n8, n9, n10])
    clear hd
    go_enter Tryz.func32, Tryz.ntmps32
    go_upto_region 2 with fail
    rw [HW.out]
    go_wp2_with (first | (go_at_call 74; first | (with_reducible refine (HP1.out _).mono ?_); rintro e w' ⟨rfl, q, rfl⟩ | (with_reducible refine (HP2.out _).mono ?_); rintro e w' ⟨rfl, q, rfl⟩) | (go_at_call 75; first | (with_reducible refine (HL.out _).mono ?_); rintro e w' ⟨rfl, q, rfl⟩ | (with_reducible refine (HL0.out (by assumption) _).mono ?_); rintro e w' ⟨rfl, q, rfl⟩) | (go_at_call 76; with_reducible refine (HA.out _).mono ?_; rintro e w' ⟨rfl, q, rfl⟩) | (go_at_call 77; with_reducible refine (HE.out _).mono ?_; rintro e w' ⟨rfl, q, rfl⟩))
    all_goals (go_ret; exact ⟨by rw [HO.out]; rfl, Later.old _ HK.out⟩)
  have fn10 : (s.st < 0) = False := eq_false n10
  by_cases n11 : 2 < s.st
  case pos =>
    have fn11 : ((2 : Int) < s.st) = True := eq_true n11
    have HO := Lib.hid (show checkS s = 44 by rw [hd]; simp [n1, n2, n3, n4, n5, hn6, hn7, n8, n9, n10, n11])
    clear hd
    go_enter Tryz.func32, Tryz.ntmps32
    go_upto_region 2 with fail
    rw [HW.out]
    go_wp2_with (first | (go_at_call 74; first | (with_reducible refine (HP1.out _).mono ?_); rintro e w' ⟨rfl, q, rfl⟩ | (with_reducible refine (HP2.out _).mono ?_); rintro e w' ⟨rfl, q, rfl⟩) | (go_at_call 75; first | (with_reducible refine (HL.out _).mono ?_); rintro e w' ⟨rfl, q, rfl⟩ | (with_reducible refine (HL0.out (by assumption) _).mono ?_); rintro e w' ⟨rfl, q, rfl⟩) | (go_at_call 76; with_reducible refine (HA.out _).mono ?_; rintro e w' ⟨rfl, q, rfl⟩) | (go_at_call 77; with_reducible refine (HE.out _).mono ?_; rintro e w' ⟨rfl, q, rfl⟩))
    all_goals (go_ret; exact ⟨by rw [HO.out]; rfl, Later.old _ HK.out⟩)
  have fn11 : ((2 : Int) < s.st) = False := eq_false n11
  by_cases n12 : linkedS s = false
  case pos =>
    rw [n12] at HL HL0
    have HO := Lib.hid (show checkS s = 45 by rw [hd]; simp [n1, n2, n3, n4, n5, hn6, hn7, n8, n9, n10, n11, n12])
    clear n12
    clear hd
    go_enter Tryz.func32, Tryz.ntmps32
    go_upto_region 2 with fail
    rw [HW.out]
    go_wp2_with (first | (go_at_call 74; first | (with_reducible refine (HP1.out _).mono ?_); rintro e w' ⟨rfl, q, rfl⟩ | (with_reducible refine (HP2.out _).mono ?_); rintro e w' ⟨rfl, q, rfl⟩) | (go_at_call 75; first | (with_reducible refine (HL.out _).mono ?_); rintro e w' ⟨rfl, q, rfl⟩ | (with_reducible refine (HL0.out (by assumption) _).mono ?_); rintro e w' ⟨rfl, q, rfl⟩) | (go_at_call 76; with_reducible refine (HA.out _).mono ?_; rintro e w' ⟨rfl, q, rfl⟩) | (go_at_call 77; with_reducible refine (HE.out _).mono ?_; rintro e w' ⟨rfl, q, rfl⟩))
    all_goals (go_ret; exact ⟨by rw [HO.out]; rfl, Later.old _ HK.out⟩)
  have hn12 := Bool.of_not_eq_false n12
  rw [hn12] at HL HL0
  by_cases n13 : carriedS s.ats = false
  case pos =>
    rw [n13] at HA
    have HO := Lib.hid (show checkS s = 46 by rw [hd]; simp [n1, n2, n3, n4, n5, hn6, hn7, n8, n9, n10, n11, hn12, n13])
    clear n13
    clear hd
    go_enter Tryz.func32, Tryz.ntmps32
    go_upto_region 2 with fail
    rw [HW.out]
    go_wp2_with (first | (go_at_call 74; first | (with_reducible refine (HP1.out _).mono ?_); rintro e w' ⟨rfl, q, rfl⟩ | (with_reducible refine (HP2.out _).mono ?_); rintro e w' ⟨rfl, q, rfl⟩) | (go_at_call 75; first | (with_reducible refine (HL.out _).mono ?_); rintro e w' ⟨rfl, q, rfl⟩ | (with_reducible refine (HL0.out (by assumption) _).mono ?_); rintro e w' ⟨rfl, q, rfl⟩) | (go_at_call 76; with_reducible refine (HA.out _).mono ?_; rintro e w' ⟨rfl, q, rfl⟩) | (go_at_call 77; with_reducible refine (HE.out _).mono ?_; rintro e w' ⟨rfl, q, rfl⟩))
    all_goals (go_ret; exact ⟨by rw [HO.out]; rfl, Later.old _ HK.out⟩)
  have hn13 := Bool.of_not_eq_false n13
  rw [hn13] at HA
  by_cases n14 : toldS s.evs = false
  case pos =>
    rw [n14] at HE
    have HO := Lib.hid (show checkS s = 47 by rw [hd]; simp [n1, n2, n3, n4, n5, hn6, hn7, n8, n9, n10, n11, hn12, hn13, n14])
    clear n14
    clear hd
    go_enter Tryz.func32, Tryz.ntmps32
    go_upto_region 2 with fail
    rw [HW.out]
    go_wp2_with (first | (go_at_call 74; first | (with_reducible refine (HP1.out _).mono ?_); rintro e w' ⟨rfl, q, rfl⟩ | (with_reducible refine (HP2.out _).mono ?_); rintro e w' ⟨rfl, q, rfl⟩) | (go_at_call 75; first | (with_reducible refine (HL.out _).mono ?_); rintro e w' ⟨rfl, q, rfl⟩ | (with_reducible refine (HL0.out (by assumption) _).mono ?_); rintro e w' ⟨rfl, q, rfl⟩) | (go_at_call 76; with_reducible refine (HA.out _).mono ?_; rintro e w' ⟨rfl, q, rfl⟩) | (go_at_call 77; with_reducible refine (HE.out _).mono ?_; rintro e w' ⟨rfl, q, rfl⟩))
    all_goals (go_ret; exact ⟨by rw [HO.out]; rfl, Later.old _ HK.out⟩)
  have hn14 := Bool.of_not_eq_false n14
  rw [hn14] at HE
  have HO := Lib.hid (show checkS s = 0 by rw [hd]; simp [n1, n2, n3, n4, n5, hn6, hn7, n8, n9, n10, n11, hn12, hn13, hn14])
  clear hn6 hn7 hn12 hn13 hn14 n6 n7 n12 n13 n14
  clear hd
  go_enter Tryz.func32, Tryz.ntmps32
  go_upto_region 2 with fail
  rw [HW.out]
  go_wp2_with (first | (go_at_call 74; first | (with_reducible refine (HP1.out _).mono ?_); rintro e w' ⟨rfl, q, rfl⟩ | (with_reducible refine (HP2.out _).mono ?_); rintro e w' ⟨rfl, q, rfl⟩) | (go_at_call 75; first | (with_reducible refine (HL.out _).mono ?_); rintro e w' ⟨rfl, q, rfl⟩ | (with_reducible refine (HL0.out (by assumption) _).mono ?_); rintro e w' ⟨rfl, q, rfl⟩) | (go_at_call 76; with_reducible refine (HA.out _).mono ?_; rintro e w' ⟨rfl, q, rfl⟩) | (go_at_call 77; with_reducible refine (HE.out _).mono ?_; rintro e w' ⟨rfl, q, rfl⟩))
  all_goals (go_ret; exact ⟨by rw [HO.out]; rfl, Later.old _ HK.out⟩)
end Go.Proofs.YtlcbgklealipoaaGreatDoor
end

