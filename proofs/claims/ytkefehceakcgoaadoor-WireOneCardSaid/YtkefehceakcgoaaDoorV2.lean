/- between, Rune: how many bytes a rune has (the walks). -/
import Derived.Test.YtkefehceakcgoaaDoorV1
import Derived.Test.YtkefehceakcgoaaDoorWire
namespace Go.Proofs.YtkefehceakcgoaaDoor
open Go.RowKit
set_option linter.unusedVariables false
set_option linter.unusedSimpArgs false

theorem str_byte {l : List Int} (hb : Bytes l) (j : Nat) (hj : j < l.length) (h : j < (strOfNums l).size) : (((strOfNums l)[j]'h).toNat : Int) = (oct l j : Int) := by
  have := hb.getD j hj
  have e : (strOfNums l)[j]'h = UInt8.ofNat (l.getD j 0).toNat := by
    have h2 : (strOfNums l).data.toList[j]? = some (UInt8.ofNat (l.getD j 0).toNat) := by
      rw [strOfNums_data, List.getElem?_map, List.getElem?_eq_getElem hj]
      simp [List.getD_eq_getElem?_getD, List.getElem?_eq_getElem hj]
    rw [Array.getElem?_toList] at h2
    have h3 := Array.getElem?_eq_some_iff.1 h2
    exact h3.2
  rw [e]
  unfold oct
  obtain ⟨x, hx⟩ : ∃ x, x = l.getD j 0 := ⟨_, rfl⟩
  rw [← hx] at this ⊢
  rw [UInt8.toNat_ofNat']
  omega

theorem between_any (l : List Int) (j : Nat) (lo hi : Nat) (w : World) (hb : Bytes l) (hl : l.length ≤ 9223372036854775807) (hj : j ≤ 9223372036854775807) :
    Calls Tryd.prog 58 #[.string (strOfNums l), .int .i64 j, .int .u8 lo, .int .u8 hi] w fun e w' => e = .returned (.bool (decide (j < l.length ∧ lo ≤ oct l j ∧ oct l j ≤ hi))) ∧ w' = w := by
  have hs : (strOfNums l).size = l.length := strOfNums_size l
  have n0 : (0 : Int) ≤ j := by omega
  by_cases h : j < l.length
  · have hsz : j < (strOfNums l).size := by rw [hs]; exact h
    have hby := str_byte hb j h hsz
    have n1 : (j : Int) < l.length := by omega
    have n2 : (j : Int) < (strOfNums l).size := by omega
    by_cases h1 : lo ≤ oct l j
    · have n3 : (lo : Int) ≤ oct l j := by omega
      by_cases h2 : oct l j ≤ hi
      · have n4 : (oct l j : Int) ≤ hi := by omega
        rw [decide_eq_true (show j < l.length ∧ lo ≤ oct l j ∧ oct l j ≤ hi from ⟨h, h1, h2⟩)]
        go_enter Tryd.func58, Tryd.ntmps58
        go_wp2_with fail
        go_ret
        exact ⟨rfl, rfl⟩
      · have n4 : ¬ (oct l j : Int) ≤ hi := by omega
        rw [decide_eq_false (show ¬ (j < l.length ∧ lo ≤ oct l j ∧ oct l j ≤ hi) from fun h => h2 h.2.2)]
        go_enter Tryd.func58, Tryd.ntmps58
        go_wp2_with fail
        go_ret
        exact ⟨rfl, rfl⟩
    · have n3 : ¬ (lo : Int) ≤ oct l j := by omega
      rw [decide_eq_false (show ¬ (j < l.length ∧ lo ≤ oct l j ∧ oct l j ≤ hi) from fun h => h1 h.2.1)]
      go_enter Tryd.func58, Tryd.ntmps58
      go_wp2_with fail
      go_ret
      exact ⟨rfl, rfl⟩
  · have n1 : ¬ (j : Int) < l.length := by omega
    have n2 : ¬ (j : Int) < (strOfNums l).size := by omega
    rw [decide_eq_false (show ¬ (j < l.length ∧ lo ≤ oct l j ∧ oct l j ≤ hi) from fun h' => h h'.1)]
    go_enter Tryd.func58, Tryd.ntmps58
    go_wp2_with fail
    go_ret
    exact ⟨rfl, rfl⟩

/-- The bounds of a rune's second byte, and how many follow. -/
def loN (b : Nat) : Nat := if b = 224 then 160 else if b = 240 then 144 else 128
def hiN (b : Nat) : Nat := if b = 237 then 159 else if b = 244 then 143 else 191
def moreN (b : Nat) : Nat := if b < 224 then 1 else if b < 240 then 2 else 3
/-- Do the bytes from place i on fit? -/
def okN (l : List Int) (p b : Nat) : Nat → Prop
  | 0 => True
  | i + 1 => okN l p b i ∧ p + (i + 1) < l.length ∧ (if i = 0 then loN b else 128) ≤ oct l (p + (i + 1)) ∧ oct l (p + (i + 1)) ≤ (if i = 0 then hiN b else 191)
theorem rn_ok (l : List Int) (p : Nat) (hp : p < l.length) (h1 : ¬ oct l p < 128) (h2 : ¬ (oct l p < 194 ∨ 244 < oct l p)) :
    (okN l p (oct l p) (moreN (oct l p)) → rn (l.drop p) = 1 + moreN (oct l p)) ∧ (∀ i, i < moreN (oct l p) → ¬ okN l p (oct l p) (i + 1) → rn (l.drop p) = 0) := by
  have hne : l.drop p ≠ [] := by
    intro e
    have := congrArg List.length e
    rw [List.length_drop, List.length_nil] at this
    omega
  rw [rn_ne hne, oct_drop, oct_drop, oct_drop, oct_drop, List.length_drop, Nat.add_zero]
  obtain ⟨b, hb⟩ : ∃ b, b = oct l p := ⟨_, rfl⟩
  rw [← hb] at h1 h2 ⊢
  unfold runeN
  rw [if_neg h1, if_neg h2]
  change (okN l p b (moreN b) → (if l.length - p ≤ 1 ∨ oct l (p + 1) < loN b ∨ hiN b < oct l (p + 1) then 0 else _) = 1 + moreN b) ∧ (∀ i, i < moreN b → ¬ okN l p b (i + 1) → (if l.length - p ≤ 1 ∨ oct l (p + 1) < loN b ∨ hiN b < oct l (p + 1) then 0 else _) = 0)
  by_cases c1 : b < 224
  · have m : moreN b = 1 := by unfold moreN; rw [if_pos c1]
    rw [m, if_pos c1]
    refine ⟨fun h => ?_, fun i hi h => ?_⟩
    · simp only [okN, Nat.zero_add, if_true, true_and] at h
      rw [if_neg (by omega)]
    · obtain rfl : i = 0 := by omega
      simp only [okN, Nat.zero_add, if_true, true_and] at h
      rw [if_pos (by omega)]
  · by_cases c2 : b < 240
    · have m : moreN b = 2 := by unfold moreN; rw [if_neg c1, if_pos c2]
      rw [m, if_neg c1]
      refine ⟨fun h => ?_, fun i hi h => ?_⟩
      · simp only [okN, Nat.zero_add, if_true, true_and, Nat.one_ne_zero, if_false, Nat.reduceAdd] at h
        rw [if_neg (by omega), if_neg (by omega), if_pos c2]
      · rcases (show i = 0 ∨ i = 1 by omega) with rfl | rfl
        · simp only [okN, Nat.zero_add, if_true, true_and] at h
          rw [if_pos (by omega)]
        · simp only [okN, Nat.zero_add, if_true, true_and, Nat.one_ne_zero, if_false, Nat.reduceAdd] at h
          by_cases d : l.length - p ≤ 1 ∨ oct l (p + 1) < loN b ∨ hiN b < oct l (p + 1)
          · rw [if_pos d]
          · rw [if_neg d, if_pos (by omega)]
    · have m : moreN b = 3 := by unfold moreN; rw [if_neg c1, if_neg c2]
      rw [m, if_neg c1]
      refine ⟨fun h => ?_, fun i hi h => ?_⟩
      · simp only [okN, Nat.zero_add, if_true, true_and, Nat.one_ne_zero, if_false, Nat.reduceAdd, show ¬ (2 : Nat) = 0 from by decide] at h
        rw [if_neg (by omega), if_neg (by omega), if_neg c2, if_neg (by omega)]
      · rcases (show i = 0 ∨ i = 1 ∨ i = 2 by omega) with rfl | rfl | rfl
        · simp only [okN, Nat.zero_add, if_true, true_and] at h
          rw [if_pos (by omega)]
        · simp only [okN, Nat.zero_add, if_true, true_and, Nat.one_ne_zero, if_false, Nat.reduceAdd] at h
          by_cases d : l.length - p ≤ 1 ∨ oct l (p + 1) < loN b ∨ hiN b < oct l (p + 1)
          · rw [if_pos d]
          · rw [if_neg d, if_pos (by omega)]
        · simp only [okN, Nat.zero_add, if_true, true_and, Nat.one_ne_zero, if_false, Nat.reduceAdd, show ¬ (2 : Nat) = 0 from by decide] at h
          by_cases d : l.length - p ≤ 1 ∨ oct l (p + 1) < loN b ∨ hiN b < oct l (p + 1)
          · rw [if_pos d]
          · rw [if_neg d]
            by_cases d2 : l.length - p ≤ 2 ∨ oct l (p + 2) < 128 ∨ 191 < oct l (p + 2)
            · rw [if_pos d2]
            · rw [if_neg d2, if_neg c2, if_pos (by omega)]

set_option maxHeartbeats 8000000 in
set_option maxRecDepth 100000 in
theorem rune_any (l : List Int) (p : Nat) (w : World) (hb : Bytes l) (hl : l.length ≤ 1000000000000) (hp : p < l.length) :
    Calls Tryd.prog 35 #[.string (strOfNums l), .int .i64 p] w fun e w' => e = .returned (.int .i64 (rn (l.drop p))) ∧ w' = w := by
  have hs : (strOfNums l).size = l.length := strOfNums_size l
  have hsz : p < (strOfNums l).size := by rw [hs]; exact hp
  have hby := str_byte hb p hp hsz
  have n0 : (0 : Int) ≤ p := by omega
  have n1 : (p : Int) < l.length := by omega
  have n2 : (p : Int) < (strOfNums l).size := by omega
  have n3 : ¬ (p : Int) ≥ l.length := by omega
  have hok := rn_ok l p hp
  obtain ⟨b, hbb⟩ : ∃ b, b = oct l p := ⟨_, rfl⟩
  rw [← hbb] at hok hby
  have hb256 : b < 256 := by rw [hbb]; exact oct_lt hb p
  by_cases h1 : b < 128
  · have k1 : (b : Int) < 128 := by omega
    have e : rn (l.drop p) = 1 := by
      rw [rn_ne (by intro e; have := congrArg List.length e; rw [List.length_drop, List.length_nil] at this; omega), oct_drop, Nat.add_zero, ← hbb]
      unfold runeN
      rw [if_pos h1]
    rw [e]
    go_enter Tryd.func35, Tryd.ntmps35
    go_wp2_with fail
    go_ret
    exact ⟨rfl, rfl⟩
  · have k1 : ¬ (b : Int) < 128 := by omega
    by_cases h2 : b < 194 ∨ 244 < b
    · have e : rn (l.drop p) = 0 := by
        rw [rn_ne (by intro e; have := congrArg List.length e; rw [List.length_drop, List.length_nil] at this; omega), oct_drop, Nat.add_zero, ← hbb]
        unfold runeN
        rw [if_neg h1, if_pos h2]
      rw [e]
      rcases h2 with h2 | h2
      · have j1 : ¬ (b : Int) ≥ 194 := by omega
        have j2 : ¬ (b : Int) ≥ 224 := by omega
        have j3 : ¬ (b : Int) ≥ 240 := by omega
        go_enter Tryd.func35, Tryd.ntmps35
        go_wp2_with fail
        go_ret
        exact ⟨rfl, rfl⟩
      · have j1 : (b : Int) ≥ 194 := by omega
        have j2 : (b : Int) ≥ 224 := by omega
        have j3 : (b : Int) ≥ 240 := by omega
        have j4 : ¬ (b : Int) ≤ 223 := by omega
        have j5 : ¬ (b : Int) ≤ 239 := by omega
        have j6 : ¬ (b : Int) ≤ 244 := by omega
        go_enter Tryd.func35, Tryd.ntmps35
        go_wp2_with fail
        go_ret
        exact ⟨rfl, rfl⟩
    · obtain ⟨o1, o2⟩ := hok h1 h2
      have HBB := Lib.hid hbb
      have hlI : (l.length : Int) ≤ 1000000000000 := by omega
      clear hbb
      obtain hbl : ¬ b < 194 := fun h => h2 (.inl h)
      obtain hbh : ¬ 244 < b := fun h => h2 (.inr h)
      clear h2 hok
      have j1 : (b : Int) ≥ 194 := by omega
      have j6 : (b : Int) ≤ 244 := by omega
      have OK := Lib.hid (And.intro o1 o2)
      have HB := Lib.hid hb
      clear o1 o2
      rcases (show (b < 224) ∨ (b = 224) ∨ (224 < b ∧ b < 237) ∨ (b = 237) ∨ (237 < b ∧ b < 240) ∨ (b = 240) ∨ (240 < b ∧ b < 244) ∨ (b = 244) by omega) with hc | hc | hc | hc | hc | hc | hc | hc
      · have m : moreN b = 1 := by unfold moreN; rw [if_pos (by omega)]
        have ml : loN b = 128 := by unfold loN; rw [if_neg (by omega), if_neg (by omega)]
        have mh : hiN b = 191 := by unfold hiN; rw [if_neg (by omega), if_neg (by omega)]
        have j4 : (b : Int) ≤ 223 := by omega
        have e224 : ((b : Int) == 224) = false := by rw [beq_eq_false_iff_ne]; omega
        have e237 : ((b : Int) == 237) = false := by rw [beq_eq_false_iff_ne]; omega
        have e240 : ((b : Int) == 240) = false := by rw [beq_eq_false_iff_ne]; omega
        have e244 : ((b : Int) == 244) = false := by rw [beq_eq_false_iff_ne]; omega
        clear hc
        go_enter Tryd.func35, Tryd.ntmps35
        go_wp2_with fail
        go_loopw [6, 7, 9, 10] (fun lo hi i _ wr => ∃ k : Nat, lo = .int .u8 ((if k = 0 then loN b else 128 : Nat) : Int) ∧ hi = .int .u8 ((if k = 0 then hiN b else 191 : Nat) : Int) ∧ i = .int .i64 ((k : Int) + 1) ∧ k ≤ 1 ∧ okN l p b k ∧ wr = w) (fun _ _ i _ _ => 10 - (intOf i).toNat)
        case atStart => exact ⟨0, by rw [if_pos rfl, ml]; rfl, by rw [if_pos rfl, mh]; rfl, rfl, by omega, trivial, rfl⟩
        case round =>
          obtain ⟨k, rfl, rfl, rfl, hk, hokk, rfl⟩ := hrel
          have HK := Lib.hid hokk
          clear hokk
          obtain ⟨lo, hlo⟩ : ∃ lo, lo = (if k = 0 then loN b else 128 : Nat) := ⟨_, rfl⟩
          obtain ⟨hi, hhi⟩ : ∃ hi, hi = (if k = 0 then hiN b else 191 : Nat) := ⟨_, rfl⟩
          rw [← hlo, ← hhi]
          have HL := Lib.hid (And.intro hlo hhi)
          clear hlo hhi
          by_cases hkm : k < 1
          · have v1 : (k : Int) + 1 ≤ 1 := by omega
            go_wp2_with fail
            rw [show (p : Int) + ((k : Int) + 1) = ((p + (k + 1) : Nat) : Int) by omega]
            refine (between_any l (p + (k + 1)) lo hi wr HB.out (by omega) (by omega)).mono ?_
            rintro e w' ⟨rfl, rfl⟩
            by_cases hbt : p + (k + 1) < l.length ∧ lo ≤ oct l (p + (k + 1)) ∧ oct l (p + (k + 1)) ≤ hi
            · rw [decide_eq_true hbt]
              have HN : Hid (okN l p b (k + 1)) := Lib.hid (by rw [HL.out.1, HL.out.2] at hbt; exact ⟨HK.out, hbt⟩)
              clear hbt
              go_wp2_with fail
              exact ⟨⟨k + 1, by rw [if_neg (by omega)]; rfl, by rw [if_neg (by omega)]; rfl, by congr 1, by omega, HN.out, trivial⟩, by simp [intOf]; omega⟩
            · rw [decide_eq_false hbt]
              have HN : Hid (rn (l.drop p) = 0) := Lib.hid (OK.out.2 k (by rw [m]; exact hkm) (fun h => by rw [HL.out.1, HL.out.2] at hbt; exact hbt h.2))
              clear hbt
              go_wp2_with fail
              go_ret
              exact ⟨by rw [HN.out]; rfl, rfl⟩
          · have v1 : ¬ (k : Int) + 1 ≤ 1 := by omega
            obtain rfl : k = 1 := by omega
            have HN : Hid (rn (l.drop p) = 2) := Lib.hid (by have := OK.out.1 (by rw [m]; exact HK.out); rw [m] at this; exact this)
            go_wp2_with fail
            go_ret
            exact ⟨by rw [HN.out]; rfl, rfl⟩
      · have m : moreN b = 2 := by unfold moreN; rw [if_neg (by omega), if_pos (by omega)]
        have ml : loN b = 160 := by unfold loN; rw [if_pos (by omega)]
        have mh : hiN b = 191 := by unfold hiN; rw [if_neg (by omega), if_neg (by omega)]
        have j4 : ¬ (b : Int) ≤ 223 := by omega
        have j2 : (b : Int) ≥ 224 := by omega
        have j5 : (b : Int) ≤ 239 := by omega
        have e224 : ((b : Int) == 224) = true := by rw [beq_iff_eq]; omega
        have e237 : ((b : Int) == 237) = false := by rw [beq_eq_false_iff_ne]; omega
        have e240 : ((b : Int) == 240) = false := by rw [beq_eq_false_iff_ne]; omega
        have e244 : ((b : Int) == 244) = false := by rw [beq_eq_false_iff_ne]; omega
        clear hc
        go_enter Tryd.func35, Tryd.ntmps35
        go_wp2_with fail
        go_loopw [6, 7, 9, 10] (fun lo hi i _ wr => ∃ k : Nat, lo = .int .u8 ((if k = 0 then loN b else 128 : Nat) : Int) ∧ hi = .int .u8 ((if k = 0 then hiN b else 191 : Nat) : Int) ∧ i = .int .i64 ((k : Int) + 1) ∧ k ≤ 2 ∧ okN l p b k ∧ wr = w) (fun _ _ i _ _ => 10 - (intOf i).toNat)
        case atStart => exact ⟨0, by rw [if_pos rfl, ml]; rfl, by rw [if_pos rfl, mh]; rfl, rfl, by omega, trivial, rfl⟩
        case round =>
          obtain ⟨k, rfl, rfl, rfl, hk, hokk, rfl⟩ := hrel
          have HK := Lib.hid hokk
          clear hokk
          obtain ⟨lo, hlo⟩ : ∃ lo, lo = (if k = 0 then loN b else 128 : Nat) := ⟨_, rfl⟩
          obtain ⟨hi, hhi⟩ : ∃ hi, hi = (if k = 0 then hiN b else 191 : Nat) := ⟨_, rfl⟩
          rw [← hlo, ← hhi]
          have HL := Lib.hid (And.intro hlo hhi)
          clear hlo hhi
          by_cases hkm : k < 2
          · have v1 : (k : Int) + 1 ≤ 2 := by omega
            go_wp2_with fail
            rw [show (p : Int) + ((k : Int) + 1) = ((p + (k + 1) : Nat) : Int) by omega]
            refine (between_any l (p + (k + 1)) lo hi wr HB.out (by omega) (by omega)).mono ?_
            rintro e w' ⟨rfl, rfl⟩
            by_cases hbt : p + (k + 1) < l.length ∧ lo ≤ oct l (p + (k + 1)) ∧ oct l (p + (k + 1)) ≤ hi
            · rw [decide_eq_true hbt]
              have HN : Hid (okN l p b (k + 1)) := Lib.hid (by rw [HL.out.1, HL.out.2] at hbt; exact ⟨HK.out, hbt⟩)
              clear hbt
              go_wp2_with fail
              exact ⟨⟨k + 1, by rw [if_neg (by omega)]; rfl, by rw [if_neg (by omega)]; rfl, by congr 1, by omega, HN.out, trivial⟩, by simp [intOf]; omega⟩
            · rw [decide_eq_false hbt]
              have HN : Hid (rn (l.drop p) = 0) := Lib.hid (OK.out.2 k (by rw [m]; exact hkm) (fun h => by rw [HL.out.1, HL.out.2] at hbt; exact hbt h.2))
              clear hbt
              go_wp2_with fail
              go_ret
              exact ⟨by rw [HN.out]; rfl, rfl⟩
          · have v1 : ¬ (k : Int) + 1 ≤ 2 := by omega
            obtain rfl : k = 2 := by omega
            have HN : Hid (rn (l.drop p) = 3) := Lib.hid (by have := OK.out.1 (by rw [m]; exact HK.out); rw [m] at this; exact this)
            go_wp2_with fail
            go_ret
            exact ⟨by rw [HN.out]; rfl, rfl⟩
      · have m : moreN b = 2 := by unfold moreN; rw [if_neg (by omega), if_pos (by omega)]
        have ml : loN b = 128 := by unfold loN; rw [if_neg (by omega), if_neg (by omega)]
        have mh : hiN b = 191 := by unfold hiN; rw [if_neg (by omega), if_neg (by omega)]
        have j4 : ¬ (b : Int) ≤ 223 := by omega
        have j2 : (b : Int) ≥ 224 := by omega
        have j5 : (b : Int) ≤ 239 := by omega
        have e224 : ((b : Int) == 224) = false := by rw [beq_eq_false_iff_ne]; omega
        have e237 : ((b : Int) == 237) = false := by rw [beq_eq_false_iff_ne]; omega
        have e240 : ((b : Int) == 240) = false := by rw [beq_eq_false_iff_ne]; omega
        have e244 : ((b : Int) == 244) = false := by rw [beq_eq_false_iff_ne]; omega
        clear hc
        go_enter Tryd.func35, Tryd.ntmps35
        go_wp2_with fail
        go_loopw [6, 7, 9, 10] (fun lo hi i _ wr => ∃ k : Nat, lo = .int .u8 ((if k = 0 then loN b else 128 : Nat) : Int) ∧ hi = .int .u8 ((if k = 0 then hiN b else 191 : Nat) : Int) ∧ i = .int .i64 ((k : Int) + 1) ∧ k ≤ 2 ∧ okN l p b k ∧ wr = w) (fun _ _ i _ _ => 10 - (intOf i).toNat)
        case atStart => exact ⟨0, by rw [if_pos rfl, ml]; rfl, by rw [if_pos rfl, mh]; rfl, rfl, by omega, trivial, rfl⟩
        case round =>
          obtain ⟨k, rfl, rfl, rfl, hk, hokk, rfl⟩ := hrel
          have HK := Lib.hid hokk
          clear hokk
          obtain ⟨lo, hlo⟩ : ∃ lo, lo = (if k = 0 then loN b else 128 : Nat) := ⟨_, rfl⟩
          obtain ⟨hi, hhi⟩ : ∃ hi, hi = (if k = 0 then hiN b else 191 : Nat) := ⟨_, rfl⟩
          rw [← hlo, ← hhi]
          have HL := Lib.hid (And.intro hlo hhi)
          clear hlo hhi
          by_cases hkm : k < 2
          · have v1 : (k : Int) + 1 ≤ 2 := by omega
            go_wp2_with fail
            rw [show (p : Int) + ((k : Int) + 1) = ((p + (k + 1) : Nat) : Int) by omega]
            refine (between_any l (p + (k + 1)) lo hi wr HB.out (by omega) (by omega)).mono ?_
            rintro e w' ⟨rfl, rfl⟩
            by_cases hbt : p + (k + 1) < l.length ∧ lo ≤ oct l (p + (k + 1)) ∧ oct l (p + (k + 1)) ≤ hi
            · rw [decide_eq_true hbt]
              have HN : Hid (okN l p b (k + 1)) := Lib.hid (by rw [HL.out.1, HL.out.2] at hbt; exact ⟨HK.out, hbt⟩)
              clear hbt
              go_wp2_with fail
              exact ⟨⟨k + 1, by rw [if_neg (by omega)]; rfl, by rw [if_neg (by omega)]; rfl, by congr 1, by omega, HN.out, trivial⟩, by simp [intOf]; omega⟩
            · rw [decide_eq_false hbt]
              have HN : Hid (rn (l.drop p) = 0) := Lib.hid (OK.out.2 k (by rw [m]; exact hkm) (fun h => by rw [HL.out.1, HL.out.2] at hbt; exact hbt h.2))
              clear hbt
              go_wp2_with fail
              go_ret
              exact ⟨by rw [HN.out]; rfl, rfl⟩
          · have v1 : ¬ (k : Int) + 1 ≤ 2 := by omega
            obtain rfl : k = 2 := by omega
            have HN : Hid (rn (l.drop p) = 3) := Lib.hid (by have := OK.out.1 (by rw [m]; exact HK.out); rw [m] at this; exact this)
            go_wp2_with fail
            go_ret
            exact ⟨by rw [HN.out]; rfl, rfl⟩
      · have m : moreN b = 2 := by unfold moreN; rw [if_neg (by omega), if_pos (by omega)]
        have ml : loN b = 128 := by unfold loN; rw [if_neg (by omega), if_neg (by omega)]
        have mh : hiN b = 159 := by unfold hiN; rw [if_pos (by omega)]
        have j4 : ¬ (b : Int) ≤ 223 := by omega
        have j2 : (b : Int) ≥ 224 := by omega
        have j5 : (b : Int) ≤ 239 := by omega
        have e224 : ((b : Int) == 224) = false := by rw [beq_eq_false_iff_ne]; omega
        have e237 : ((b : Int) == 237) = true := by rw [beq_iff_eq]; omega
        have e240 : ((b : Int) == 240) = false := by rw [beq_eq_false_iff_ne]; omega
        have e244 : ((b : Int) == 244) = false := by rw [beq_eq_false_iff_ne]; omega
        clear hc
        go_enter Tryd.func35, Tryd.ntmps35
        go_wp2_with fail
        go_loopw [6, 7, 9, 10] (fun lo hi i _ wr => ∃ k : Nat, lo = .int .u8 ((if k = 0 then loN b else 128 : Nat) : Int) ∧ hi = .int .u8 ((if k = 0 then hiN b else 191 : Nat) : Int) ∧ i = .int .i64 ((k : Int) + 1) ∧ k ≤ 2 ∧ okN l p b k ∧ wr = w) (fun _ _ i _ _ => 10 - (intOf i).toNat)
        case atStart => exact ⟨0, by rw [if_pos rfl, ml]; rfl, by rw [if_pos rfl, mh]; rfl, rfl, by omega, trivial, rfl⟩
        case round =>
          obtain ⟨k, rfl, rfl, rfl, hk, hokk, rfl⟩ := hrel
          have HK := Lib.hid hokk
          clear hokk
          obtain ⟨lo, hlo⟩ : ∃ lo, lo = (if k = 0 then loN b else 128 : Nat) := ⟨_, rfl⟩
          obtain ⟨hi, hhi⟩ : ∃ hi, hi = (if k = 0 then hiN b else 191 : Nat) := ⟨_, rfl⟩
          rw [← hlo, ← hhi]
          have HL := Lib.hid (And.intro hlo hhi)
          clear hlo hhi
          by_cases hkm : k < 2
          · have v1 : (k : Int) + 1 ≤ 2 := by omega
            go_wp2_with fail
            rw [show (p : Int) + ((k : Int) + 1) = ((p + (k + 1) : Nat) : Int) by omega]
            refine (between_any l (p + (k + 1)) lo hi wr HB.out (by omega) (by omega)).mono ?_
            rintro e w' ⟨rfl, rfl⟩
            by_cases hbt : p + (k + 1) < l.length ∧ lo ≤ oct l (p + (k + 1)) ∧ oct l (p + (k + 1)) ≤ hi
            · rw [decide_eq_true hbt]
              have HN : Hid (okN l p b (k + 1)) := Lib.hid (by rw [HL.out.1, HL.out.2] at hbt; exact ⟨HK.out, hbt⟩)
              clear hbt
              go_wp2_with fail
              exact ⟨⟨k + 1, by rw [if_neg (by omega)]; rfl, by rw [if_neg (by omega)]; rfl, by congr 1, by omega, HN.out, trivial⟩, by simp [intOf]; omega⟩
            · rw [decide_eq_false hbt]
              have HN : Hid (rn (l.drop p) = 0) := Lib.hid (OK.out.2 k (by rw [m]; exact hkm) (fun h => by rw [HL.out.1, HL.out.2] at hbt; exact hbt h.2))
              clear hbt
              go_wp2_with fail
              go_ret
              exact ⟨by rw [HN.out]; rfl, rfl⟩
          · have v1 : ¬ (k : Int) + 1 ≤ 2 := by omega
            obtain rfl : k = 2 := by omega
            have HN : Hid (rn (l.drop p) = 3) := Lib.hid (by have := OK.out.1 (by rw [m]; exact HK.out); rw [m] at this; exact this)
            go_wp2_with fail
            go_ret
            exact ⟨by rw [HN.out]; rfl, rfl⟩
      · have m : moreN b = 2 := by unfold moreN; rw [if_neg (by omega), if_pos (by omega)]
        have ml : loN b = 128 := by unfold loN; rw [if_neg (by omega), if_neg (by omega)]
        have mh : hiN b = 191 := by unfold hiN; rw [if_neg (by omega), if_neg (by omega)]
        have j4 : ¬ (b : Int) ≤ 223 := by omega
        have j2 : (b : Int) ≥ 224 := by omega
        have j5 : (b : Int) ≤ 239 := by omega
        have e224 : ((b : Int) == 224) = false := by rw [beq_eq_false_iff_ne]; omega
        have e237 : ((b : Int) == 237) = false := by rw [beq_eq_false_iff_ne]; omega
        have e240 : ((b : Int) == 240) = false := by rw [beq_eq_false_iff_ne]; omega
        have e244 : ((b : Int) == 244) = false := by rw [beq_eq_false_iff_ne]; omega
        clear hc
        go_enter Tryd.func35, Tryd.ntmps35
        go_wp2_with fail
        go_loopw [6, 7, 9, 10] (fun lo hi i _ wr => ∃ k : Nat, lo = .int .u8 ((if k = 0 then loN b else 128 : Nat) : Int) ∧ hi = .int .u8 ((if k = 0 then hiN b else 191 : Nat) : Int) ∧ i = .int .i64 ((k : Int) + 1) ∧ k ≤ 2 ∧ okN l p b k ∧ wr = w) (fun _ _ i _ _ => 10 - (intOf i).toNat)
        case atStart => exact ⟨0, by rw [if_pos rfl, ml]; rfl, by rw [if_pos rfl, mh]; rfl, rfl, by omega, trivial, rfl⟩
        case round =>
          obtain ⟨k, rfl, rfl, rfl, hk, hokk, rfl⟩ := hrel
          have HK := Lib.hid hokk
          clear hokk
          obtain ⟨lo, hlo⟩ : ∃ lo, lo = (if k = 0 then loN b else 128 : Nat) := ⟨_, rfl⟩
          obtain ⟨hi, hhi⟩ : ∃ hi, hi = (if k = 0 then hiN b else 191 : Nat) := ⟨_, rfl⟩
          rw [← hlo, ← hhi]
          have HL := Lib.hid (And.intro hlo hhi)
          clear hlo hhi
          by_cases hkm : k < 2
          · have v1 : (k : Int) + 1 ≤ 2 := by omega
            go_wp2_with fail
            rw [show (p : Int) + ((k : Int) + 1) = ((p + (k + 1) : Nat) : Int) by omega]
            refine (between_any l (p + (k + 1)) lo hi wr HB.out (by omega) (by omega)).mono ?_
            rintro e w' ⟨rfl, rfl⟩
            by_cases hbt : p + (k + 1) < l.length ∧ lo ≤ oct l (p + (k + 1)) ∧ oct l (p + (k + 1)) ≤ hi
            · rw [decide_eq_true hbt]
              have HN : Hid (okN l p b (k + 1)) := Lib.hid (by rw [HL.out.1, HL.out.2] at hbt; exact ⟨HK.out, hbt⟩)
              clear hbt
              go_wp2_with fail
              exact ⟨⟨k + 1, by rw [if_neg (by omega)]; rfl, by rw [if_neg (by omega)]; rfl, by congr 1, by omega, HN.out, trivial⟩, by simp [intOf]; omega⟩
            · rw [decide_eq_false hbt]
              have HN : Hid (rn (l.drop p) = 0) := Lib.hid (OK.out.2 k (by rw [m]; exact hkm) (fun h => by rw [HL.out.1, HL.out.2] at hbt; exact hbt h.2))
              clear hbt
              go_wp2_with fail
              go_ret
              exact ⟨by rw [HN.out]; rfl, rfl⟩
          · have v1 : ¬ (k : Int) + 1 ≤ 2 := by omega
            obtain rfl : k = 2 := by omega
            have HN : Hid (rn (l.drop p) = 3) := Lib.hid (by have := OK.out.1 (by rw [m]; exact HK.out); rw [m] at this; exact this)
            go_wp2_with fail
            go_ret
            exact ⟨by rw [HN.out]; rfl, rfl⟩
      · have m : moreN b = 3 := by unfold moreN; rw [if_neg (by omega), if_neg (by omega)]
        have ml : loN b = 144 := by unfold loN; rw [if_neg (by omega), if_pos (by omega)]
        have mh : hiN b = 191 := by unfold hiN; rw [if_neg (by omega), if_neg (by omega)]
        have j4 : ¬ (b : Int) ≤ 223 := by omega
        have j2 : (b : Int) ≥ 224 := by omega
        have j5 : ¬ (b : Int) ≤ 239 := by omega
        have j3 : (b : Int) ≥ 240 := by omega
        have e224 : ((b : Int) == 224) = false := by rw [beq_eq_false_iff_ne]; omega
        have e237 : ((b : Int) == 237) = false := by rw [beq_eq_false_iff_ne]; omega
        have e240 : ((b : Int) == 240) = true := by rw [beq_iff_eq]; omega
        have e244 : ((b : Int) == 244) = false := by rw [beq_eq_false_iff_ne]; omega
        clear hc
        go_enter Tryd.func35, Tryd.ntmps35
        go_wp2_with fail
        go_loopw [6, 7, 9, 10] (fun lo hi i _ wr => ∃ k : Nat, lo = .int .u8 ((if k = 0 then loN b else 128 : Nat) : Int) ∧ hi = .int .u8 ((if k = 0 then hiN b else 191 : Nat) : Int) ∧ i = .int .i64 ((k : Int) + 1) ∧ k ≤ 3 ∧ okN l p b k ∧ wr = w) (fun _ _ i _ _ => 10 - (intOf i).toNat)
        case atStart => exact ⟨0, by rw [if_pos rfl, ml]; rfl, by rw [if_pos rfl, mh]; rfl, rfl, by omega, trivial, rfl⟩
        case round =>
          obtain ⟨k, rfl, rfl, rfl, hk, hokk, rfl⟩ := hrel
          have HK := Lib.hid hokk
          clear hokk
          obtain ⟨lo, hlo⟩ : ∃ lo, lo = (if k = 0 then loN b else 128 : Nat) := ⟨_, rfl⟩
          obtain ⟨hi, hhi⟩ : ∃ hi, hi = (if k = 0 then hiN b else 191 : Nat) := ⟨_, rfl⟩
          rw [← hlo, ← hhi]
          have HL := Lib.hid (And.intro hlo hhi)
          clear hlo hhi
          by_cases hkm : k < 3
          · have v1 : (k : Int) + 1 ≤ 3 := by omega
            go_wp2_with fail
            rw [show (p : Int) + ((k : Int) + 1) = ((p + (k + 1) : Nat) : Int) by omega]
            refine (between_any l (p + (k + 1)) lo hi wr HB.out (by omega) (by omega)).mono ?_
            rintro e w' ⟨rfl, rfl⟩
            by_cases hbt : p + (k + 1) < l.length ∧ lo ≤ oct l (p + (k + 1)) ∧ oct l (p + (k + 1)) ≤ hi
            · rw [decide_eq_true hbt]
              have HN : Hid (okN l p b (k + 1)) := Lib.hid (by rw [HL.out.1, HL.out.2] at hbt; exact ⟨HK.out, hbt⟩)
              clear hbt
              go_wp2_with fail
              exact ⟨⟨k + 1, by rw [if_neg (by omega)]; rfl, by rw [if_neg (by omega)]; rfl, by congr 1, by omega, HN.out, trivial⟩, by simp [intOf]; omega⟩
            · rw [decide_eq_false hbt]
              have HN : Hid (rn (l.drop p) = 0) := Lib.hid (OK.out.2 k (by rw [m]; exact hkm) (fun h => by rw [HL.out.1, HL.out.2] at hbt; exact hbt h.2))
              clear hbt
              go_wp2_with fail
              go_ret
              exact ⟨by rw [HN.out]; rfl, rfl⟩
          · have v1 : ¬ (k : Int) + 1 ≤ 3 := by omega
            obtain rfl : k = 3 := by omega
            have HN : Hid (rn (l.drop p) = 4) := Lib.hid (by have := OK.out.1 (by rw [m]; exact HK.out); rw [m] at this; exact this)
            go_wp2_with fail
            go_ret
            exact ⟨by rw [HN.out]; rfl, rfl⟩
      · have m : moreN b = 3 := by unfold moreN; rw [if_neg (by omega), if_neg (by omega)]
        have ml : loN b = 128 := by unfold loN; rw [if_neg (by omega), if_neg (by omega)]
        have mh : hiN b = 191 := by unfold hiN; rw [if_neg (by omega), if_neg (by omega)]
        have j4 : ¬ (b : Int) ≤ 223 := by omega
        have j2 : (b : Int) ≥ 224 := by omega
        have j5 : ¬ (b : Int) ≤ 239 := by omega
        have j3 : (b : Int) ≥ 240 := by omega
        have e224 : ((b : Int) == 224) = false := by rw [beq_eq_false_iff_ne]; omega
        have e237 : ((b : Int) == 237) = false := by rw [beq_eq_false_iff_ne]; omega
        have e240 : ((b : Int) == 240) = false := by rw [beq_eq_false_iff_ne]; omega
        have e244 : ((b : Int) == 244) = false := by rw [beq_eq_false_iff_ne]; omega
        clear hc
        go_enter Tryd.func35, Tryd.ntmps35
        go_wp2_with fail
        go_loopw [6, 7, 9, 10] (fun lo hi i _ wr => ∃ k : Nat, lo = .int .u8 ((if k = 0 then loN b else 128 : Nat) : Int) ∧ hi = .int .u8 ((if k = 0 then hiN b else 191 : Nat) : Int) ∧ i = .int .i64 ((k : Int) + 1) ∧ k ≤ 3 ∧ okN l p b k ∧ wr = w) (fun _ _ i _ _ => 10 - (intOf i).toNat)
        case atStart => exact ⟨0, by rw [if_pos rfl, ml]; rfl, by rw [if_pos rfl, mh]; rfl, rfl, by omega, trivial, rfl⟩
        case round =>
          obtain ⟨k, rfl, rfl, rfl, hk, hokk, rfl⟩ := hrel
          have HK := Lib.hid hokk
          clear hokk
          obtain ⟨lo, hlo⟩ : ∃ lo, lo = (if k = 0 then loN b else 128 : Nat) := ⟨_, rfl⟩
          obtain ⟨hi, hhi⟩ : ∃ hi, hi = (if k = 0 then hiN b else 191 : Nat) := ⟨_, rfl⟩
          rw [← hlo, ← hhi]
          have HL := Lib.hid (And.intro hlo hhi)
          clear hlo hhi
          by_cases hkm : k < 3
          · have v1 : (k : Int) + 1 ≤ 3 := by omega
            go_wp2_with fail
            rw [show (p : Int) + ((k : Int) + 1) = ((p + (k + 1) : Nat) : Int) by omega]
            refine (between_any l (p + (k + 1)) lo hi wr HB.out (by omega) (by omega)).mono ?_
            rintro e w' ⟨rfl, rfl⟩
            by_cases hbt : p + (k + 1) < l.length ∧ lo ≤ oct l (p + (k + 1)) ∧ oct l (p + (k + 1)) ≤ hi
            · rw [decide_eq_true hbt]
              have HN : Hid (okN l p b (k + 1)) := Lib.hid (by rw [HL.out.1, HL.out.2] at hbt; exact ⟨HK.out, hbt⟩)
              clear hbt
              go_wp2_with fail
              exact ⟨⟨k + 1, by rw [if_neg (by omega)]; rfl, by rw [if_neg (by omega)]; rfl, by congr 1, by omega, HN.out, trivial⟩, by simp [intOf]; omega⟩
            · rw [decide_eq_false hbt]
              have HN : Hid (rn (l.drop p) = 0) := Lib.hid (OK.out.2 k (by rw [m]; exact hkm) (fun h => by rw [HL.out.1, HL.out.2] at hbt; exact hbt h.2))
              clear hbt
              go_wp2_with fail
              go_ret
              exact ⟨by rw [HN.out]; rfl, rfl⟩
          · have v1 : ¬ (k : Int) + 1 ≤ 3 := by omega
            obtain rfl : k = 3 := by omega
            have HN : Hid (rn (l.drop p) = 4) := Lib.hid (by have := OK.out.1 (by rw [m]; exact HK.out); rw [m] at this; exact this)
            go_wp2_with fail
            go_ret
            exact ⟨by rw [HN.out]; rfl, rfl⟩
      · have m : moreN b = 3 := by unfold moreN; rw [if_neg (by omega), if_neg (by omega)]
        have ml : loN b = 128 := by unfold loN; rw [if_neg (by omega), if_neg (by omega)]
        have mh : hiN b = 143 := by unfold hiN; rw [if_neg (by omega), if_pos (by omega)]
        have j4 : ¬ (b : Int) ≤ 223 := by omega
        have j2 : (b : Int) ≥ 224 := by omega
        have j5 : ¬ (b : Int) ≤ 239 := by omega
        have j3 : (b : Int) ≥ 240 := by omega
        have e224 : ((b : Int) == 224) = false := by rw [beq_eq_false_iff_ne]; omega
        have e237 : ((b : Int) == 237) = false := by rw [beq_eq_false_iff_ne]; omega
        have e240 : ((b : Int) == 240) = false := by rw [beq_eq_false_iff_ne]; omega
        have e244 : ((b : Int) == 244) = true := by rw [beq_iff_eq]; omega
        clear hc
        go_enter Tryd.func35, Tryd.ntmps35
        go_wp2_with fail
        go_loopw [6, 7, 9, 10] (fun lo hi i _ wr => ∃ k : Nat, lo = .int .u8 ((if k = 0 then loN b else 128 : Nat) : Int) ∧ hi = .int .u8 ((if k = 0 then hiN b else 191 : Nat) : Int) ∧ i = .int .i64 ((k : Int) + 1) ∧ k ≤ 3 ∧ okN l p b k ∧ wr = w) (fun _ _ i _ _ => 10 - (intOf i).toNat)
        case atStart => exact ⟨0, by rw [if_pos rfl, ml]; rfl, by rw [if_pos rfl, mh]; rfl, rfl, by omega, trivial, rfl⟩
        case round =>
          obtain ⟨k, rfl, rfl, rfl, hk, hokk, rfl⟩ := hrel
          have HK := Lib.hid hokk
          clear hokk
          obtain ⟨lo, hlo⟩ : ∃ lo, lo = (if k = 0 then loN b else 128 : Nat) := ⟨_, rfl⟩
          obtain ⟨hi, hhi⟩ : ∃ hi, hi = (if k = 0 then hiN b else 191 : Nat) := ⟨_, rfl⟩
          rw [← hlo, ← hhi]
          have HL := Lib.hid (And.intro hlo hhi)
          clear hlo hhi
          by_cases hkm : k < 3
          · have v1 : (k : Int) + 1 ≤ 3 := by omega
            go_wp2_with fail
            rw [show (p : Int) + ((k : Int) + 1) = ((p + (k + 1) : Nat) : Int) by omega]
            refine (between_any l (p + (k + 1)) lo hi wr HB.out (by omega) (by omega)).mono ?_
            rintro e w' ⟨rfl, rfl⟩
            by_cases hbt : p + (k + 1) < l.length ∧ lo ≤ oct l (p + (k + 1)) ∧ oct l (p + (k + 1)) ≤ hi
            · rw [decide_eq_true hbt]
              have HN : Hid (okN l p b (k + 1)) := Lib.hid (by rw [HL.out.1, HL.out.2] at hbt; exact ⟨HK.out, hbt⟩)
              clear hbt
              go_wp2_with fail
              exact ⟨⟨k + 1, by rw [if_neg (by omega)]; rfl, by rw [if_neg (by omega)]; rfl, by congr 1, by omega, HN.out, trivial⟩, by simp [intOf]; omega⟩
            · rw [decide_eq_false hbt]
              have HN : Hid (rn (l.drop p) = 0) := Lib.hid (OK.out.2 k (by rw [m]; exact hkm) (fun h => by rw [HL.out.1, HL.out.2] at hbt; exact hbt h.2))
              clear hbt
              go_wp2_with fail
              go_ret
              exact ⟨by rw [HN.out]; rfl, rfl⟩
          · have v1 : ¬ (k : Int) + 1 ≤ 3 := by omega
            obtain rfl : k = 3 := by omega
            have HN : Hid (rn (l.drop p) = 4) := Lib.hid (by have := OK.out.1 (by rw [m]; exact HK.out); rw [m] at this; exact this)
            go_wp2_with fail
            go_ret
            exact ⟨by rw [HN.out]; rfl, rfl⟩
end Go.Proofs.YtkefehceakcgoaaDoor
