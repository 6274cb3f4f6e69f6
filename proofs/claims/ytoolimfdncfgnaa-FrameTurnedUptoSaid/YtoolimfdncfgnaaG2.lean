/- One frame's bits turned: what Scan tells (plain). -/
import Derived.Test.YtoolimfdncfgnaaG1
namespace Go.Proofs.Ytoolimfdncfgnaa
open Go.RowKit
set_option linter.unusedVariables false
set_option linter.unusedSimpArgs false

/-- A number's bytes behind it. -/
theorem crc_lo (s v : Nat) (hs : s < 4294967296) (hv : v < 4294967296) : crc s (loB 4 v) = bsteps 32 (s ^^^ v) := by
  have step : ∀ s v : Nat, s < 4294967296 → v < 4294967296 → bsteps 8 (s ^^^ v) = crcB s ((v % 256 : Nat) : Int) ^^^ v / 256 := fun s v hs hv => by
    rw [crcB_eq s _ hs (by omega) (by omega), bsteps_pull 8 s v hs hv]
    rfl
  have e : loB 4 v = [((v % 256 : Nat) : Int), ((v / 256 % 256 : Nat) : Int), ((v / 65536 % 256 : Nat) : Int), ((v / 16777216 % 256 : Nat) : Int)] := by
    simp only [loB, List.range, List.range.loop, List.map]
    simp
  have lt : ∀ s (x : Nat), s < 4294967296 → crcB s ((x % 256 : Nat) : Int) < 4294967296 := fun s x h => crcB_lt h (by omega) (by omega)
  rw [e]
  simp only [crc, List.foldl]
  rw [show (32 : Nat) = 24 + 8 from rfl, bsteps_add, step s v hs hv, show (24 : Nat) = 16 + 8 from rfl, bsteps_add, step _ (v / 256) (lt _ _ hs) (by omega), show (16 : Nat) = 8 + 8 from rfl, bsteps_add,
    step _ (v / 256 / 256) (lt _ _ (lt _ _ hs)) (by omega), step _ (v / 256 / 256 / 256) (lt _ _ (lt _ _ (lt _ _ hs))) (by omega)]
  have z : v / 256 / 256 / 256 / 256 = 0 := by omega
  rw [z, Nat.xor_zero, show v / 256 / 256 / 256 = v / 16777216 by omega, show v / 256 / 256 = v / 65536 by omega]
/-- Every head leaves the same rest. -/
theorem crc_head (k s n m : Nat) (hk : k ≤ 9) : crc 4294967295 (head24 k s n m) = bsteps 32 4294967295 := by
  have hb : Bytes (head20 k s n m) := head20_bytes s n m (by omega)
  have hc : crc 4294967295 (head20 k s n m) < 4294967296 := crc_lt (by decide) hb
  rw [head24, crc_append, crc_lo _ (sumS (head20 k s n m)) hc (more_lt (by decide) hb)]
  congr 1
  unfold sumS more
  rw [Nat.xor_zero, Nat.xor_comm 4294967295 (crc _ _), ← Nat.xor_assoc, Nat.xor_self, Nat.zero_xor]

def flip (l : List Int) (n : Nat) : List Int := l.set (n / 8) (((l.getD (n / 8) 0).toNat ^^^ 2 ^ (n % 8) : Nat) : Int)
theorem flip_len (l : List Int) (n : Nat) : (flip l n).length = l.length := by simp [flip]
theorem getD_byte {l : List Int} (h : Bytes l) (j : Nat) : 0 ≤ l.getD j 0 ∧ l.getD j 0 < 256 := by
  rcases Nat.lt_or_ge j l.length with hj | hj
  · rw [List.getD_eq_getElem?_getD, List.getElem?_eq_getElem hj]
    exact h _ (List.getElem_mem hj)
  · rw [List.getD_eq_getElem?_getD, List.getElem?_eq_none hj]
    exact ⟨by decide, by decide⟩
theorem flip_byte {l : List Int} (h : Bytes l) (n : Nat) : (l.getD (n / 8) 0).toNat ^^^ 2 ^ (n % 8) < 256 := by
  have := getD_byte h (n / 8)
  exact Nat.xor_lt_two_pow (n := 8) (by omega) (Nat.pow_lt_pow_right (by decide) (by omega))
theorem flip_bytes {l : List Int} (h : Bytes l) (n : Nat) : Bytes (flip l n) := by
  intro x hx
  rcases List.mem_or_eq_of_mem_set hx with hx | rfl
  · exact h x hx
  · have := flip_byte h n
    exact ⟨by omega, by omega⟩
theorem flip_bit (l : List Int) (n j : Nat) (hn : n < 8 * l.length) : bitS (flip l n) j = if j = n then 1 - bitS l n else bitS l j := by
  have hn8 : n / 8 < l.length := by omega
  unfold bitS
  rw [flip_len]
  by_cases hj : j / 8 < l.length
  · rw [if_pos hj, if_pos hj, if_pos hn8]
    by_cases he : n / 8 = j / 8
    · have g : (flip l n).getD (j / 8) 0 = (((l.getD (n / 8) 0).toNat ^^^ 2 ^ (n % 8) : Nat) : Int) := by
        rw [flip, List.getD_eq_getElem?_getD, he, List.getElem?_set_self hj]; rfl
      rw [g, Int.toNat_natCast, bit_of_mod, Nat.testBit_xor, Nat.testBit_two_pow]
      by_cases hjn : j = n
      · subst hjn
        rw [if_pos rfl, bit_of_mod]
        cases ((l.getD (j / 8) 0).toNat).testBit (j % 8) <;> simp
      · rw [if_neg hjn, bit_of_mod, ← he]
        have : ¬ n % 8 = j % 8 := by omega
        simp [this]
    · have g : (flip l n).getD (j / 8) 0 = l.getD (j / 8) 0 := by
        rw [flip, List.getD_eq_getElem?_getD, List.getElem?_set_ne he, List.getD_eq_getElem?_getD]
      rw [g, if_neg (by rintro rfl; exact he rfl)]
  · rw [if_neg hj, if_neg hj, if_neg (by rintro rfl; exact hj hn8)]
theorem flip_take (l : List Int) (n : Nat) (h : 192 ≤ n) : (flip l n).take 24 = l.take 24 := by
  unfold flip
  rw [List.take_set_of_le (by omega)]
theorem bit_take (l : List Int) (m j : Nat) (h : j < 8 * m) : bitS (l.take m) j = bitS l j := by
  unfold bitS
  have hj : j / 8 < m := by omega
  rw [List.length_take, List.getD_eq_getElem?_getD, List.getElem?_take_of_lt hj, ← List.getD_eq_getElem?_getD]
  by_cases h : j / 8 < l.length
  · rw [if_pos (by omega), if_pos h]
  · rw [if_neg (by omega), if_neg h]
theorem bit_drop (l : List Int) (m j : Nat) : bitS (l.drop m) j = bitS l (8 * m + j) := by
  unfold bitS
  have e1 : (8 * m + j) / 8 = m + j / 8 := by omega
  have e2 : (8 * m + j) % 8 = j % 8 := by omega
  rw [e1, e2, List.length_drop, List.getD_eq_getElem?_getD, List.getElem?_drop, ← List.getD_eq_getElem?_getD]
  by_cases h : j / 8 < l.length - m
  · rw [if_pos h, if_pos (by omega)]
  · rw [if_neg h, if_neg (by omega)]

structure TurnI (f g : List Int) (fr i why : Nat) : Prop where
  len : g.length = f.length
  byt : Bytes g
  rng : ∀ j, bitS g j ≠ bitS f j → fr ≤ j ∧ j < fr + i
  why : (why = 0 ∧ g = f) ∨ (why = 24 ∧ ∃ j, j < 192 ∧ bitS g j ≠ bitS f j) ∨ (why = 25 ∧ g.take 24 = f.take 24 ∧ ∃ j, 192 ≤ j ∧ j < 8 * f.length ∧ bitS g j ≠ bitS f j)
theorem TurnI.start {f : List Int} (hb : Bytes f) (fr : Nat) : TurnI f f fr 0 0 := ⟨rfl, hb, fun j h => absurd rfl h, .inl ⟨rfl, rfl⟩⟩
theorem TurnI.skip {f g : List Int} {fr i why : Nat} (h : TurnI f g fr i why) : TurnI f g fr (i + 1) why :=
  ⟨h.len, h.byt, fun j hj => by have := h.rng j hj; omega, h.why⟩
theorem TurnI.turn {f g : List Int} {fr i why : Nat} (h : TurnI f g fr i why) (hn : fr + i < 8 * f.length) : TurnI f (flip g (fr + i)) fr (i + 1) (if fr + i < 192 then 24 else if why = 0 then 25 else why) := by
  have hgn : fr + i < 8 * g.length := by rw [h.len]; exact hn
  have same : bitS g (fr + i) = bitS f (fr + i) := by
    rcases Decidable.em (bitS g (fr + i) = bitS f (fr + i)) with e | e
    · exact e
    · have := h.rng _ e; omega
  have now : bitS (flip g (fr + i)) (fr + i) ≠ bitS f (fr + i) := by
    rw [flip_bit _ _ _ hgn, if_pos rfl, same]
    have := bitS_lt f (fr + i)
    omega
  have keep : ∀ j, bitS g j ≠ bitS f j → bitS (flip g (fr + i)) j ≠ bitS f j := fun j hj => by
    have := h.rng j hj
    rw [flip_bit _ _ _ hgn, if_neg (by omega)]
    exact hj
  refine ⟨by rw [flip_len, h.len], flip_bytes h.byt _, fun j hj => ?_, ?_⟩
  · rw [flip_bit _ _ _ hgn] at hj
    by_cases e : j = fr + i
    · omega
    · rw [if_neg e] at hj
      have := h.rng j hj
      omega
  · by_cases h192 : fr + i < 192
    · rw [if_pos h192]
      exact .inr (.inl ⟨rfl, fr + i, h192, now⟩)
    · rw [if_neg h192]
      rcases h.why with ⟨rfl, rfl⟩ | ⟨rfl, j, h1, h2⟩ | ⟨rfl, h0, j, h1, h2, h3⟩
      · rw [if_pos rfl]
        exact .inr (.inr ⟨rfl, flip_take _ _ (by omega), fr + i, by omega, hn, now⟩)
      · rw [if_neg (by decide)]
        exact .inr (.inl ⟨rfl, j, h1, keep j h2⟩)
      · rw [if_neg (by decide)]
        exact .inr (.inr ⟨rfl, by rw [flip_take _ _ (by omega), h0], j, h1, h2, keep j h3⟩)

theorem Par.frame_bytes {q : Par} (h : q.ok) : Bytes q.frame := by
  have := kindOf_le q.k
  exact frameB_bytes q.s (by omega) h.2.1
theorem scan_bad {l : List Int} (h : headS l = .bad) (h0 : 0 < l.length) : ScanIs l [] 0 24 := by
  unfold ScanIs
  rw [scanS, if_pos h0, List.drop_zero, h]
theorem scan_turned (qs : List Par) (hok : ∀ q ∈ qs, q.ok) (k : Nat) (q : Par) (hk : qs[k]? = some q) (g : List Int) (fr i why : Nat) (hi : i ≤ 32) (h : TurnI q.frame g fr i why) :
    (why = 0 → ScanIs (frames (qs.take k) ++ (g ++ frames (qs.drop (k + 1)))) (wants 0 qs) (frames qs).length 0) ∧
    (why ≠ 0 → ScanIs (frames (qs.take k) ++ (g ++ frames (qs.drop (k + 1)))) (wants 0 (qs.take k)) (endAt qs k) why) := by
  have hq := hok q (List.mem_of_getElem? hk)
  have hokt : ∀ q ∈ qs.take k, q.ok := fun q hq => hok q (List.mem_of_mem_take hq)
  obtain ⟨post, hpost⟩ : ∃ post, post = frames (qs.drop (k + 1)) := ⟨_, rfl⟩
  rw [← hpost]
  have hfl := q.frame_len
  have hfb := Par.frame_bytes hq
  have hall : frames (qs.take k) ++ (q.frame ++ post) = frames qs := by
    have e1 := (frames_take qs k q hk).1
    rw [hpost, ← List.append_assoc, ← e1, ← frames_split]
  have joined : ∀ why, ScanIs (g ++ post) [] 0 why → ScanIs (frames (qs.take k) ++ (g ++ post)) (wants 0 (qs.take k)) (endAt qs k) why := fun why hs => by
    have := scanIs_joined hokt hs
    simp only [List.map_nil, List.append_nil, Nat.add_zero] at this
    exact this
  have hk9 := kindOf_le q.k
  have hft : q.frame.take 24 = head24 (kindOf q.k) q.s q.p.length (sumS q.p) := by
    unfold Par.frame frameB
    rw [List.take_left' (head24_len _ _ _ _)]
  have hfd : q.frame.drop 24 = q.p := by
    unfold Par.frame frameB
    rw [List.drop_left' (head24_len _ _ _ _)]
  have hgl : 24 ≤ g.length := by rw [h.len]; omega
  rcases h.why with ⟨rfl, rfl⟩ | ⟨rfl, j, h1, h2⟩ | ⟨rfl, h0, j, h1, h2, h3⟩
  · refine ⟨fun _ => ?_, fun e => absurd rfl e⟩
    rw [hall]
    have := scanIs_joined hok scan_nil
    simp only [List.map_nil, List.append_nil, Nat.add_zero] at this
    exact this
  · refine ⟨fun e => absurd e (by decide), fun _ => joined 24 ?_⟩
    refine scan_bad ?_ (by rw [List.length_append]; omega)
    cases hh : headS (g ++ post) with
    | torn =>
      unfold headS at hh
      rw [if_neg (by rw [List.length_append]; omega)] at hh
      split at hh <;> cases hh
    | bad => rfl
    | ok k' s' n' u' =>
      exfalso
      have hgp : headS (g ++ post) = headS (g ++ ([] : List Int)) := by
        have e1 : headS ((g ++ post).take g.length) = headS (g ++ post) := headS_take _ _ hgl (by rw [List.length_append]; omega)
        rw [← e1, List.take_left, List.append_nil]
      rw [hgp, List.append_nil] at hh
      obtain ⟨-, f2, -, f4, -, -⟩ := head_form h.byt hh
      have c1 := crc_head k' s' n' u' f4
      have c2 := crc_head (kindOf q.k) q.s q.p.length (sumS q.p) hk9.2
      rw [← f2] at c1
      rw [← hft] at c2
      have l1 : (g.take 24).length = 24 := by rw [List.length_take]; omega
      have l2 : (q.frame.take 24).length = 24 := by rw [List.length_take]; omega
      refine crc_burst 4294967295 (by decide) (g.take 24) (q.frame.take 24) (h.byt.take 24) (hfb.take 24) (by rw [l1, l2]) fr ?_ ?_ (c1.trans c2.symm)
      · intro t ht hne
        rw [l1] at ht
        rw [bit_take _ _ _ (by omega), bit_take _ _ _ (by omega)] at hne
        have := h.rng t hne
        omega
      · refine ⟨j, by rw [l1]; omega, ?_⟩
        rw [bit_take _ _ _ (by omega), bit_take _ _ _ (by omega)]
        exact h2
  · refine ⟨fun e => absurd e (by decide), fun _ => joined 25 ?_⟩
    have e0 : g = q.frame.take 24 ++ g.drop 24 := by rw [← h0, List.take_append_drop]
    have hh : headS (g ++ post) = .ok (kindOf q.k) q.s q.p.length (sumS q.p) := by
      rw [e0, hft, List.append_assoc]
      exact headS_made _ hk9.1 hk9.2 hq.1 hq.2.2 (more_lt (by decide) hq.2.1)
    have hgd : (g.drop 24).length = q.p.length := by rw [List.length_drop, h.len]; omega
    have hdl : ((g ++ post).drop 24).take q.p.length = g.drop 24 := by
      rw [List.drop_append_of_le_length hgl, ← hgd, List.take_left]
    have hne : ¬ sumS (g.drop 24) = sumS q.p := by
      refine sum_burst (g.drop 24) q.p (fun x hx => h.byt x (List.mem_of_mem_drop hx)) hq.2.1 hgd (fr - 192) ?_ ?_
      · intro t ht hne
        rw [← hfd, bit_drop, bit_drop] at hne
        have := h.rng _ hne
        omega
      · refine ⟨j - 192, by rw [hgd]; omega, ?_⟩
        rw [← hfd, bit_drop, bit_drop, show 8 * 24 + (j - 192) = j by omega]
        exact h3
    unfold ScanIs
    rw [scanS, if_pos (by rw [List.length_append]; omega), List.drop_zero, hh]
    simp only [Nat.zero_add]
    rw [if_neg (by rw [List.length_append, h.len]; omega), hdl, if_neg hne]
end Go.Proofs.Ytoolimfdncfgnaa
