/- Frames one behind the other: what Scan tells of them (plain). -/
import Derived.Test.YtoolimfdncfgnaaE1
import Derived.Test.YtoolimfdncfgnaaB3
namespace Go.Proofs.Ytoolimfdncfgnaa
open Go.RowKit
set_option linter.unusedVariables false
set_option linter.unusedSimpArgs false

structure Par where
  k : Int
  s : Nat
  p : List Int
def pickS (c n : Int) : Int := (if c < 0 then -(c + 1) else c) % n
def kindOf (c : Int) : Nat := (1 + pickS c 9).toNat
theorem pickS_lt (c n : Int) (hn : 0 < n) : 0 ≤ pickS c n ∧ pickS c n < n := ⟨Int.emod_nonneg _ (by omega), Int.emod_lt_of_pos _ hn⟩
theorem kindOf_le (c : Int) : 1 ≤ kindOf c ∧ kindOf c ≤ 9 := by
  have := pickS_lt c 9 (by decide)
  unfold kindOf
  omega
theorem kindOf_eq (c : Int) : (kindOf c : Int) = 1 + pickS c 9 := by
  have := pickS_lt c 9 (by decide)
  unfold kindOf
  omega
def Par.frame (q : Par) : List Int := frameB (kindOf q.k) q.s q.p
def Par.ok (q : Par) : Prop := q.s < 18446744073709551616 ∧ Bytes q.p ∧ q.p.length ≤ 1048576
def frames (qs : List Par) : List Int := qs.flatMap Par.frame
def wants : Nat → List Par → List Pc
  | _, [] => []
  | n, q :: qs => ⟨kindOf q.k, q.s, n + 24, q.p.length⟩ :: wants (n + 24 + q.p.length) qs
theorem Par.frame_len (q : Par) : q.frame.length = 24 + q.p.length := frameB_len _ _ _
theorem frames_cons (q : Par) (qs : List Par) : frames (q :: qs) = q.frame ++ frames qs := by simp [frames]
theorem frames_append (qs rs : List Par) : frames (qs ++ rs) = frames qs ++ frames rs := by simp [frames]
theorem wants_append (n : Nat) (qs rs : List Par) : wants n (qs ++ rs) = wants n qs ++ wants (n + (frames qs).length) rs := by
  induction qs generalizing n with
  | nil => simp [wants, frames]
  | cons q qs ih =>
    simp only [List.cons_append, wants, ih, frames_cons, List.length_append, Par.frame_len]
    congr 3
    omega
theorem wants_len (n : Nat) (qs : List Par) : (wants n qs).length = qs.length := by
  induction qs generalizing n with
  | nil => rfl
  | cons q qs ih => simp [wants, ih]
theorem frames_bytes {qs : List Par} (h : ∀ q ∈ qs, q.ok) : Bytes (frames qs) := by
  intro x hx
  obtain ⟨q, hq, hx⟩ := List.mem_flatMap.1 hx
  have := kindOf_le q.k
  exact frameB_bytes q.s (by omega) (h q hq).2.1 x hx

theorem told_hiB (n x : Nat) : told (hiB n x) = x % 256 ^ n := by
  have hb : ∀ n, Bytes (hiB n x) := fun n => hiB_bytes n x
  induction n with
  | zero => simp [told, hiB, Nat.mod_one]
  | succ n ih =>
    rw [hiB_succ, told_cons _ _ (by rw [← hiB_succ]; exact hb (n + 1)), ih, hiB_len, pow8]
    simp only [Int.toNat_natCast]
    rw [Nat.pow_succ, Nat.mod_mul, Nat.mul_comm (x / 256 ^ n % 256)]
    omega
theorem told_hiB' {n x : Nat} (h : x < 256 ^ n) : told (hiB n x) = x := by rw [told_hiB, Nat.mod_eq_of_lt h]
theorem leS_loB4 (x : Nat) (hx : x < 4294967296) (l : List Int) (h : l = loB 4 x) : leS (l.getD 0 0) (l.getD 1 0) (l.getD 2 0) (l.getD 3 0) = x := by
  subst h
  exact leS_loB x hx _ _ _ _ rfl
theorem getD_app_lt (a b : List Int) (j : Nat) (h : j < a.length) : (a ++ b).getD j 0 = a.getD j 0 := by
  simp [List.getD_eq_getElem?_getD, List.getElem?_append_left h]
theorem getD_app_ge (a b : List Int) (j : Nat) (h : a.length ≤ j) : (a ++ b).getD j 0 = b.getD (j - a.length) 0 := by
  simp [List.getD_eq_getElem?_getD, List.getElem?_append_right h]
/-- The head of what was made says what it was made of. -/
theorem headS_made {k s n m : Nat} (r : List Int) (hk1 : 1 ≤ k) (hk9 : k ≤ 9) (hs : s < 18446744073709551616) (hn : n ≤ 1048576) (hm : m < 4294967296) : headS (head24 k s n m ++ r) = .ok k s n m := by
  have hl24 := head24_len k s n m
  have hl20 := head20_len k s n m
  have hH : head24 k s n m = [83, 80, 82, (k : Int)] ++ (hiB 8 s ++ (hiB 4 n ++ (loB 4 m ++ loB 4 (sumS (head20 k s n m))))) := by simp only [head24, head20, List.append_assoc]
  generalize hL : head24 k s n m ++ r = L
  have e1 : L = [83, 80, 82, (k : Int)] ++ (hiB 8 s ++ (hiB 4 n ++ (loB 4 m ++ (loB 4 (sumS (head20 k s n m)) ++ r)))) := by
    rw [← hL, hH]; simp only [List.append_assoc]
  have l8 : (hiB 8 s).length = 8 := hiB_len _ _
  have l4 : (hiB 4 n).length = 4 := hiB_len _ _
  have d4 : L.drop 4 = hiB 8 s ++ (hiB 4 n ++ (loB 4 m ++ (loB 4 (sumS (head20 k s n m)) ++ r))) := by rw [e1]; rfl
  have d12 : L.drop 12 = hiB 4 n ++ (loB 4 m ++ (loB 4 (sumS (head20 k s n m)) ++ r)) := by
    rw [show 12 = 4 + 8 from rfl, ← List.drop_drop, d4, List.drop_left' l8]
  have d16 : L.drop 16 = loB 4 m ++ (loB 4 (sumS (head20 k s n m)) ++ r) := by
    rw [show 16 = 12 + 4 from rfl, ← List.drop_drop, d12, List.drop_left' l4]
  have d20 : L.drop 20 = loB 4 (sumS (head20 k s n m)) ++ r := by
    rw [show 20 = 16 + 4 from rfl, ← List.drop_drop, d16, List.drop_left' (loB_len 4 m)]
  have gd : ∀ a j, L.getD (a + j) 0 = (L.drop a).getD j 0 := fun a j => by simp [List.getD_eq_getElem?_getD]
  have hK : hKind L = k := by unfold hKind; rw [e1]; rfl
  have hS : hSeq L = s := by unfold hSeq; rw [d4, List.take_left' l8]; exact told_hiB' hs
  have hN : hLen L = n := by unfold hLen; rw [d12, List.take_left' l4]; exact told_hiB' (by omega)
  have hM : hSum L = m := by
    unfold hSum
    rw [gd 16 0, gd 16 1, gd 16 2, gd 16 3, d16]
    refine leS_loB m hm _ _ _ _ ?_
    simp only [loB, List.range, List.range.loop, List.map]
    rfl
  have t20 : L.take 20 = head20 k s n m := by
    rw [← hL, head24, List.append_assoc, List.take_left' hl20]
  have hO : hOwn L = sumS (L.take 20) := by
    unfold hOwn
    rw [gd 20 0, gd 20 1, gd 20 2, gd 20 3, d20, t20]
    refine leS_loB _ (more_lt (by decide) (head20_bytes s n m (by omega))) _ _ _ _ ?_
    simp only [loB, List.range, List.range.loop, List.map]
    rfl
  have hmag : magic L := by unfold magic; rw [e1]; exact ⟨rfl, rfl, rfl⟩
  have hlen : ¬ L.length < 24 := by rw [← hL, List.length_append, hl24]; omega
  unfold headS
  rw [if_neg hlen, if_pos ⟨hmag, by rw [hK]; exact hk1, by rw [hK]; exact hk9, by rw [hN]; exact hn, hO⟩, hK, hS, hN, hM]
theorem headS_frame (q : Par) (h : q.ok) (r : List Int) : headS (q.frame ++ r) = .ok (kindOf q.k) q.s q.p.length (sumS q.p) := by
  have := kindOf_le q.k
  unfold Par.frame frameB
  rw [List.append_assoc]
  exact headS_made _ this.1 this.2 h.1 h.2.2 (more_lt (by decide) h.2.1)
/-- Frames one behind the other are a chain. -/
theorem chain_frames (qs : List Par) (h : ∀ q ∈ qs, q.ok) : ∀ (pre r : List Int), Chain (pre ++ (frames qs ++ r)) pre.length (wants pre.length qs) (pre.length + (frames qs).length) := by
  induction qs with
  | nil => intro pre r; simpa [frames, wants] using Chain.nil _
  | cons q qs ih =>
    intro pre r
    have hq := h q (by simp)
    have hd : (pre ++ (frames (q :: qs) ++ r)).drop pre.length = q.frame ++ (frames qs ++ r) := by
      rw [List.drop_left, frames_cons, List.append_assoc]
    have hd2 : (pre ++ (frames (q :: qs) ++ r)).drop (pre.length + 24) = q.p ++ (frames qs ++ r) := by
      rw [← List.drop_drop, hd]
      unfold Par.frame frameB
      rw [List.append_assoc, List.drop_left' (head24_len _ _ _ _)]
    have e : pre ++ (frames (q :: qs) ++ r) = (pre ++ q.frame) ++ (frames qs ++ r) := by rw [frames_cons]; simp only [List.append_assoc]
    have ht := ih (fun x hx => h x (by simp [hx])) (pre ++ q.frame) r
    rw [← e] at ht
    have hl : (pre ++ q.frame).length = pre.length + 24 + q.p.length := by rw [List.length_append, Par.frame_len]; omega
    rw [hl] at ht
    have hend : pre.length + 24 + q.p.length + (frames qs).length = pre.length + (frames (q :: qs)).length := by rw [frames_cons, List.length_append, Par.frame_len]; omega
    rw [hend] at ht
    refine Chain.cons (by rw [hd]; exact headS_frame q hq _) ?_ (by rw [hd2, List.take_left]) ht
    rw [List.length_append, List.length_append, frames_cons, List.length_append, Par.frame_len]
    omega
/-- A scan along a chain. -/
theorem scan_along {l : List Int} {n e : Nat} {ps : List Pc} (h : Chain l n ps e) : ∀ f, ps.length ≤ f → scanS l f n = (ps ++ (scanS l (f - ps.length) e).1, (scanS l (f - ps.length) e).2) := by
  induction h with
  | nil n => intro f hf; simp
  | @cons n k s m u e ps h hf hs t ih =>
    intro f hf'
    obtain ⟨f, rfl⟩ : ∃ f', f = f' + 1 := ⟨f - 1, by simp at hf'; omega⟩
    obtain ⟨h24, -⟩ := ok_len h
    have hlt : n < l.length := by simp at h24; omega
    rw [scanS, if_pos hlt, h]
    simp only
    rw [if_neg (by omega), if_pos hs, ih f (by simpa using hf')]
    simp
theorem scan_fuel (l : List Int) : ∀ f n, l.length < f + n → ∀ g, l.length < g + n → scanS l f n = scanS l g n := by
  intro f
  induction f with
  | zero =>
    intro n hf g hg
    cases g with
    | zero => rfl
    | succ g => rw [scanS, scanS, if_neg (by omega)]
  | succ f ih =>
    intro n hf g hg
    cases g with
    | zero => rw [scanS, scanS, if_neg (by omega)]
    | succ g =>
      rw [scanS, scanS]
      split
      · cases hh : headS (l.drop n) with
        | torn => rfl
        | bad => rfl
        | ok k s m u =>
          simp only
          rw [ih (n + 24 + m) (by omega) g (by omega)]
      · rfl
def Pc.up (d : Nat) (q : Pc) : Pc := ⟨q.kind, q.seq, q.pos + d, q.len⟩
/-- What stands behind other bytes is scanned as by itself. -/
theorem scan_shift (a r : List Int) : ∀ f n, scanS (a ++ r) f (a.length + n) = ((scanS r f n).1.map (Pc.up a.length), a.length + (scanS r f n).2.1, (scanS r f n).2.2) := by
  intro f
  induction f with
  | zero => intro n; rfl
  | succ f ih =>
    intro n
    have hd : (a ++ r).drop (a.length + n) = r.drop n := by rw [← List.drop_drop, List.drop_left]
    have hd2 : (a ++ r).drop (a.length + n + 24) = r.drop (n + 24) := by rw [Nat.add_assoc, ← List.drop_drop, List.drop_left]
    have hl : (a ++ r).length = a.length + r.length := List.length_append
    rw [scanS, scanS, hd]
    by_cases hc : n < r.length
    · rw [if_pos hc, if_pos (show a.length + n < (a ++ r).length by omega)]
      cases hh : headS (r.drop n) with
      | torn => rfl
      | bad => rfl
      | ok k s m u =>
        simp only
        rw [hd2]
        by_cases h2 : r.length - (n + 24) < m
        · rw [if_pos h2, if_pos (show (a ++ r).length - (a.length + n + 24) < m by omega)]
          rfl
        · rw [if_neg h2, if_neg (show ¬ (a ++ r).length - (a.length + n + 24) < m by omega)]
          split
          · rw [show a.length + n + 24 + m = a.length + (n + 24 + m) by omega, ih]
            simp [Pc.up]
            omega
          · rfl
    · rw [if_neg hc, if_neg (show ¬ a.length + n < (a ++ r).length by omega)]
      rfl
theorem scanIs_joined {qs : List Par} (h : ∀ q ∈ qs, q.ok) {r : List Int} {ps : List Pc} {n q : Nat} (hr : ScanIs r ps n q) :
    ScanIs (frames qs ++ r) (wants 0 qs ++ ps.map (Pc.up (frames qs).length)) ((frames qs).length + n) q := by
  have hc := chain_frames qs h [] r
  simp only [List.nil_append, List.length_nil, Nat.zero_add] at hc
  have hle := hc.le
  rw [wants_len] at hle
  unfold ScanIs at hr ⊢
  rw [scan_along hc _ (by rw [wants_len, List.length_append]; omega), wants_len]
  have hs := scan_shift (frames qs) r ((frames qs ++ r).length + 1 - qs.length) 0
  simp only [Nat.add_zero] at hs
  rw [hs, scan_fuel r _ 0 (by rw [List.length_append]; omega) (r.length + 1) (by omega), hr]
end Go.Proofs.Ytoolimfdncfgnaa
