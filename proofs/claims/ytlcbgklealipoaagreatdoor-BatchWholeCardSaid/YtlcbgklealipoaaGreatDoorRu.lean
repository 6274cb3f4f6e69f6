/- Runes in lists of bytes (plain). -/
import Derived.Test.YtlcbgklealipoaaGreatDoorLib
import Derived.Lib.DecodeNEq
import Derived.Shelf.Unicode.DecodeSlow
namespace Go.Proofs.YtlcbgklealipoaaGreatDoor
open Go.RowKit

set_option linter.unusedVariables false
set_option linter.unusedSimpArgs false

def octs (s : ByteArray) : List Int := s.data.toList.map fun b => (b.toNat : Int)
theorem octs_len (s : ByteArray) : (octs s).length = s.size := by rw [octs, List.length_map, Array.length_toList]; rfl
theorem octs_bytes (s : ByteArray) : Bytes (octs s) := by
  intro x hx
  obtain ⟨b, _, rfl⟩ := List.mem_map.1 hx
  have := b.toNat_lt
  omega
theorem strOfNums_octs (s : ByteArray) : strOfNums (octs s) = s := by
  apply ByteArray.ext
  apply Array.toList_inj.1
  rw [strOfNums_data, octs, List.map_map]
  conv => rhs; rw [← List.map_id s.data.toList]
  refine List.map_congr_left fun b _ => ?_
  simp

/-- How many bytes a rune has at the head; 0: there is none. -/
def runeN (n b0 b1 b2 b3 : Nat) : Nat :=
  if b0 < 128 then 1
  else if b0 < 194 ∨ 244 < b0 then 0
  else if n ≤ 1 ∨ b1 < (if b0 = 224 then 160 else if b0 = 240 then 144 else 128) ∨ (if b0 = 237 then 159 else if b0 = 244 then 143 else 191) < b1 then 0
  else if b0 < 224 then 2
  else if n ≤ 2 ∨ b2 < 128 ∨ 191 < b2 then 0
  else if b0 < 240 then 3
  else if n ≤ 3 ∨ b3 < 128 ∨ 191 < b3 then 0
  else 4
theorem runeN_le (n b0 b1 b2 b3 : Nat) : runeN n b0 b1 b2 b3 ≤ 4 := by
  unfold runeN
  repeat' split
  all_goals omega
theorem runeN_fit (n b0 b1 b2 b3 : Nat) (hn : 0 < n) : runeN n b0 b1 b2 b3 ≤ n := by
  unfold runeN
  repeat' split
  all_goals omega
set_option maxHeartbeats 4000000 in
/-- The decoder at a rune. -/
theorem decode_rune (n b0 b1 b2 b3 : Nat) (hn : 1 ≤ n) (h0 : b0 < 256) (h1 : b1 < 256) (h2 : b2 < 256) (h3 : b3 < 256) :
    (runeN n b0 b1 b2 b3 = 0 → Lib.decodeN n b0 b1 b2 b3 = (65533, 1)) ∧
    (runeN n b0 b1 b2 b3 ≠ 0 → (Lib.decodeN n b0 b1 b2 b3).2 = runeN n b0 b1 b2 b3 ∧ ((Lib.decodeN n b0 b1 b2 b3).1 ≠ 65533 ∨ (Lib.decodeN n b0 b1 b2 b3).2 ≠ 1)) := by
  by_cases a : b0 < 128
  · have e : Lib.decodeN n b0 b1 b2 b3 = (b0, 1) := by unfold Lib.decodeN; rw [if_pos a]
    have r : runeN n b0 b1 b2 b3 = 1 := by unfold runeN; rw [if_pos a]
    rw [e, r]
    refine ⟨fun h => by omega, fun _ => ⟨rfl, .inl ?_⟩⟩
    simp only
    omega
  · by_cases b : b0 < 194 ∨ 244 < b0
    · have e : Lib.decodeN n b0 b1 b2 b3 = (65533, 1) := by
        refine Lib.bad_eq n b0 b1 b2 b3 h0 ?_
        unfold Lib.firstT
        repeat' split
        all_goals omega
      have r : runeN n b0 b1 b2 b3 = 0 := by unfold runeN; rw [if_neg a, if_pos b]
      rw [e, r]
      exact ⟨fun _ => rfl, fun h => absurd rfl h⟩
    · have go : ∀ sz lo hi, Lib.slowN n b0 b1 b2 b3 sz lo hi = Lib.decodeN n b0 b1 b2 b3 → lo = (if b0 = 224 then 160 else if b0 = 240 then 144 else 128) → hi = (if b0 = 237 then 159 else if b0 = 244 then 143 else 191) →
          sz = (if b0 < 224 then 2 else if b0 < 240 then 3 else 4) → (runeN n b0 b1 b2 b3 = 0 → Lib.decodeN n b0 b1 b2 b3 = (65533, 1)) ∧
          (runeN n b0 b1 b2 b3 ≠ 0 → (Lib.decodeN n b0 b1 b2 b3).2 = runeN n b0 b1 b2 b3 ∧ ((Lib.decodeN n b0 b1 b2 b3).1 ≠ 65533 ∨ (Lib.decodeN n b0 b1 b2 b3).2 ≠ 1)) := by
        intro sz lo hi e hlo hhi hsz
        rw [← e]
        unfold runeN Lib.slowN
        rw [if_neg a, if_neg b, ← hlo, ← hhi]
        clear e hlo hhi
        by_cases c1 : b0 < 224
        · rw [if_pos c1] at hsz
          subst hsz
          rw [if_pos c1]
          repeat' split
          all_goals first | (exfalso; omega) | simp | omega
        · rw [if_neg c1] at hsz
          rw [if_neg c1]
          by_cases c2 : b0 < 240
          · rw [if_pos c2] at hsz
            subst hsz
            rw [if_pos c2]
            repeat' split
            all_goals first | (exfalso; omega) | simp | omega
          · rw [if_neg c2] at hsz
            subst hsz
            rw [if_neg c2]
            repeat' split
            all_goals first | (exfalso; omega) | simp | omega
      by_cases d1 : b0 < 224
      · exact go 2 128 191 (Lib.slow_C2 n b0 b1 b2 b3 hn h1 h2 h3 (by omega)) (by rw [if_neg (by omega), if_neg (by omega)]) (by rw [if_neg (by omega), if_neg (by omega)]) (by rw [if_pos d1])
      · by_cases d2 : b0 = 224
        · exact go 3 160 191 (Lib.slow_E0 n b0 b1 b2 b3 hn h1 h2 h3 d2) (by rw [if_pos d2]) (by rw [if_neg (by omega), if_neg (by omega)]) (by rw [if_neg d1, if_pos (by omega)])
        · by_cases d3 : b0 = 237
          · exact go 3 128 159 (Lib.slow_ED n b0 b1 b2 b3 hn h1 h2 h3 d3) (by rw [if_neg d2, if_neg (by omega)]) (by rw [if_pos d3]) (by rw [if_neg d1, if_pos (by omega)])
          · by_cases d4 : b0 < 240
            · exact go 3 128 191 (Lib.slow_E1 n b0 b1 b2 b3 hn h1 h2 h3 (by omega)) (by rw [if_neg d2, if_neg (by omega)]) (by rw [if_neg d3, if_neg (by omega)]) (by rw [if_neg d1, if_pos d4])
            · by_cases d5 : b0 = 240
              · exact go 4 144 191 (Lib.slow_F0 n b0 b1 b2 b3 hn h1 h2 h3 d5) (by rw [if_neg d2, if_pos d5]) (by rw [if_neg d3, if_neg (by omega)]) (by rw [if_neg d1, if_neg d4])
              · by_cases d6 : b0 = 244
                · exact go 4 128 143 (Lib.slow_F4 n b0 b1 b2 b3 hn h1 h2 h3 d6) (by rw [if_neg d2, if_neg d5]) (by rw [if_neg d3, if_pos d6]) (by rw [if_neg d1, if_neg d4])
                · exact go 4 128 191 (Lib.slow_F1 n b0 b1 b2 b3 hn h1 h2 h3 (by omega)) (by rw [if_neg d2, if_neg d5]) (by rw [if_neg d3, if_neg d6]) (by rw [if_neg d1, if_neg d4])

def oct (l : List Int) (j : Nat) : Nat := (l.getD j 0).toNat
theorem oct_lt {l : List Int} (h : Bytes l) (j : Nat) : oct l j < 256 := by
  unfold oct
  rcases Nat.lt_or_ge j l.length with hj | hj
  · have := h.getD j hj; omega
  · rw [List.getD_eq_getElem?_getD, List.getElem?_eq_none hj]; decide
theorem oct_drop (l : List Int) (i j : Nat) : oct (l.drop i) j = oct l (i + j) := by simp [oct, List.getD_eq_getElem?_getD]
def rn (l : List Int) : Nat := if l = [] then 0 else runeN l.length (oct l 0) (oct l 1) (oct l 2) (oct l 3)
theorem rn_ne {l : List Int} (h : l ≠ []) : rn l = runeN l.length (oct l 0) (oct l 1) (oct l 2) (oct l 3) := by unfold rn; rw [if_neg h]
theorem rn_le (l : List Int) : rn l ≤ l.length := by
  unfold rn
  split
  · omega
  · rename_i h
    exact runeN_fit _ _ _ _ _ (List.length_pos_iff.2 h)
set_option maxHeartbeats 4000000 in
/-- A rune's bytes alone say that it is one. -/
theorem rn_take (l r : List Int) (h : 0 < rn l) : rn (l.take (rn l) ++ r) = rn l := by
  have hle := rn_le l
  have hne : l ≠ [] := by rintro rfl; simp [rn] at h
  have hn2 : (l.take (rn l) ++ r) ≠ [] := by
    intro e
    have := congrArg List.length e
    rw [List.length_append, List.length_take, List.length_nil] at this
    omega
  have ho : ∀ j, j < rn l → oct (l.take (rn l) ++ r) j = oct l j := fun j hj => by
    unfold oct
    rw [List.getD_eq_getElem?_getD, List.getElem?_append_left (by rw [List.length_take]; omega), List.getElem?_take_of_lt hj, ← List.getD_eq_getElem?_getD]
  have hlen : rn l ≤ (l.take (rn l) ++ r).length := by rw [List.length_append, List.length_take]; omega
  have e1 := rn_ne hne
  have e2 := rn_ne hn2
  rw [e2, ho 0 h]
  generalize hk : rn l = k at *
  generalize hL : l.take k ++ r = L at *
  have q1 := ho 1
  have q2 := ho 2
  have q3 := ho 3
  generalize oct L 1 = c1 at *
  generalize oct L 2 = c2 at *
  generalize oct L 3 = c3 at *
  generalize oct l 0 = b0 at *
  generalize oct l 1 = b1 at *
  generalize oct l 2 = b2 at *
  generalize oct l 3 = b3 at *
  have hk4 := runeN_le l.length b0 b1 b2 b3
  rw [← e1] at hk4
  clear hk hL hn2 hne ho e2
  rcases (show k = 1 ∨ k = 2 ∨ k = 3 ∨ k = 4 by omega) with rfl | rfl | rfl | rfl
  · unfold runeN at e1 ⊢
    repeat' split at e1
    all_goals first | omega | skip
    all_goals (rw [if_pos (by omega)])
  · rw [q1 (by omega)]
    clear q1 q2 q3
    unfold runeN at e1 ⊢
    repeat' split at e1
    all_goals first | omega | skip
    all_goals (repeat' split)
    all_goals omega
  · rw [q1 (by omega), q2 (by omega)]
    clear q1 q2 q3
    unfold runeN at e1 ⊢
    repeat' split at e1
    all_goals first | omega | skip
    all_goals (repeat' split)
    all_goals omega
  · rw [q1 (by omega), q2 (by omega), q3 (by omega)]
    clear q1 q2 q3
    unfold runeN at e1 ⊢
    repeat' split at e1
    all_goals first | omega | skip
    all_goals (repeat' split)
    all_goals omega

/-- What clean leaves. -/
def cleanL (l : List Int) : List Int :=
  if h : l = [] then [] else l.take (rn l) ++ cleanL (l.drop (max 1 (rn l)))
termination_by l.length
decreasing_by
  have := List.length_pos_iff.2 h
  rw [List.length_drop]
  omega
/-- Runes one behind the other. -/
inductive Runes : List Int → Prop
  | nil : Runes []
  | cons {l : List Int} (h : 0 < rn l) (t : Runes (l.drop (rn l))) : Runes l
theorem runes_take {l r : List Int} (h : 0 < rn l) (t : Runes r) : Runes (l.take (rn l) ++ r) := by
  have e := rn_take l r h
  refine .cons (by rw [e]; exact h) ?_
  rw [e, List.drop_left' (by rw [List.length_take]; have := rn_le l; omega)]
  exact t
theorem runes_clean (l : List Int) : Runes (cleanL l) := by
  induction hn : l.length using Nat.strongRecOn generalizing l with
  | _ n ih =>
    rw [cleanL]
    split
    · exact .nil
    · rename_i h
      have hp := List.length_pos_iff.2 h
      have hr := ih _ (by rw [← hn, List.length_drop]; omega) (l.drop (max 1 (rn l))) rfl
      rcases Nat.eq_zero_or_pos (rn l) with h0 | h0
      · rw [h0, List.take_zero, List.nil_append]
        rw [h0] at hr
        exact hr
      · exact runes_take h0 hr
theorem cleanL_bytes {l : List Int} (hb : Bytes l) : Bytes (cleanL l) := by
  induction hn : l.length using Nat.strongRecOn generalizing l with
  | _ n ih =>
    rw [cleanL]
    split
    · intro x hx; cases hx
    · rename_i h
      have hp := List.length_pos_iff.2 h
      intro x hx
      rcases List.mem_append.1 hx with hx | hx
      · exact hb x (List.mem_of_mem_take hx)
      · exact ih _ (by rw [← hn, List.length_drop]; omega) (fun y hy => hb y (List.mem_of_mem_drop hy)) rfl x hx
theorem cleanL_len (l : List Int) : (cleanL l).length ≤ l.length := by
  induction hn : l.length using Nat.strongRecOn generalizing l with
  | _ n ih =>
    rw [cleanL]
    split
    · simp
    · rename_i h
      have hp := List.length_pos_iff.2 h
      have := ih _ (by rw [← hn, List.length_drop]; omega) (l.drop (max 1 (rn l))) rfl
      have hr := rn_le l
      rw [List.length_append, List.length_take]
      rw [List.length_drop] at this
      omega

end Go.Proofs.YtlcbgklealipoaaGreatDoor
