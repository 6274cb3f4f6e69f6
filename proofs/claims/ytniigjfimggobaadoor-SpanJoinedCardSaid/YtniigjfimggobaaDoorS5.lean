/- What is encoded is decoded, and of any bytes what is decoded has just these bytes (plain). -/
import Derived.Test.YtniigjfimggobaaDoorS4
import Derived.Lib.ValidLaws
namespace Go.Proofs.YtniigjfimggobaaDoor
open Go.RowKit
set_option linter.unusedVariables false
set_option linter.unusedSimpArgs false

/-! ### a valid text is runes -/
theorem octs_mk (l : List UInt8) : octs ⟨l.toArray⟩ = l.map fun b => (b.toNat : Int) := by simp [octs]
theorem valid_runes (l : List UInt8) (h : Lib.validD l = true) : Runes (l.map fun b => (b.toNat : Int)) := by
  induction hn : l.length using Nat.strongRecOn generalizing l with
  | _ n ih =>
    by_cases h0 : l = []
    · subst h0; exact .nil
    · rw [Lib.validD_step l h0] at h
      have hb : Bytes (l.map fun b => (b.toNat : Int)) := by rw [← octs_mk]; exact octs_bytes _
      have hne : (l.map fun b => (b.toNat : Int)) ≠ [] := by simpa using h0
      have hd := decode_nums _ hb hne
      have hs : strOfNums (l.map fun b => (b.toNat : Int)) = ⟨l.toArray⟩ := by rw [← octs_mk, strOfNums_octs]
      rw [hs] at hd
      have he : Lib.decodeGo ⟨l.toArray⟩ = Lib.decodeL l := by
        unfold Lib.decodeGo Lib.decodeL
        rw [if_neg]
        have := List.length_pos_iff.2 h0
        have e : (⟨l.toArray⟩ : ByteArray).size = l.length := by simp [ByteArray.size]
        omega
      rw [he] at hd
      by_cases hr : rn (l.map fun b => (b.toNat : Int)) = 0
      · have := hd.1 hr
        rw [this] at h
        simp at h
      · obtain ⟨h1, h2⟩ := hd.2 hr
        rw [if_neg (by omega)] at h
        refine .cons (by omega) ?_
        rw [← List.map_drop, ← h1]
        refine ih _ ?_ _ h rfl
        rw [List.length_drop]
        have := List.length_pos_iff.2 h0
        omega
theorem valid_runes' (s : ByteArray) (h : Lib.validD s.data.toList = true) : Runes (octs s) := valid_runes s.data.toList h

/-! ### parts of the bytes -/
def seg (L : List Int) (n m : Nat) : List Int := (L.drop n).take (m - n)
theorem seg_trans (L : List Int) {n m k : Nat} (h : n ≤ m) (h2 : m ≤ k) : seg L n k = seg L n m ++ seg L m k := by
  unfold seg
  rw [show k - n = (m - n) + (k - m) by omega, List.take_add, List.drop_drop, show n + (m - n) = m by omega]
theorem drop_next {L a rest : List Int} {n : Nat} (h : L.drop n = a ++ rest) : L.drop (n + a.length) = rest := by
  rw [← List.drop_drop, h, List.drop_left]
/-- What stays wrong, and what a good end says of the beginning. -/
structure Stays {α : Type} (f : DSt → α × DSt) : Prop where
  bad : ∀ a no, (f (.bad a no)).2 = .bad a no
theorem Stays.ok {α : Type} {f : DSt → α × DSt} (h : Stays f) {st : DSt} {m : Nat} (e : (f st).2 = .ok m) : ∃ n, st = .ok n := by
  cases st with
  | ok n => exact ⟨n, rfl⟩
  | bad a no => rw [h.bad] at e; cases e
/-- What was read is written by just these bytes. -/
def OneForm {α : Type} (L : List Int) (f : DSt → α × DSt) (enc : α → List Int) (C : α → Prop) : Prop :=
  ∀ n x m, n ≤ L.length → f (.ok n) = (x, .ok m) → C x → n ≤ m ∧ m ≤ L.length ∧ seg L n m = enc x
/-- What is written is read. -/
def Back {α : Type} (L : List Int) (f : DSt → α × DSt) (enc : α → List Int) (V : α → Prop) : Prop :=
  ∀ n x rest, V x → L.drop n = enc x ++ rest → f (.ok n) = (x, .ok (n + (enc x).length))
theorem eight_stays (L : List Int) : Stays (eightP L) := ⟨fun _ _ => rfl⟩
theorem num_stays (L : List Int) : Stays (numP L) := ⟨fun _ _ => rfl⟩
theorem sig_stays (L : List Int) : Stays (sigP L) := ⟨fun _ _ => rfl⟩
theorem txt_stays (L : List Int) (most : Int) : Stays (txtP L most) := ⟨fun _ _ => rfl⟩
theorem many_stays (L : List Int) (most : Nat) (e : Int) : Stays (manyP L most e) := ⟨fun _ _ => rfl⟩
theorem iter_stays {α : Type} {f : DSt → α × DSt} (h : Stays f) (k : Nat) : Stays (iterP f k) := by
  refine ⟨fun a no => ?_⟩
  induction k with
  | zero => rfl
  | succ k ih => simp only [iterP]; rw [ih, h.bad]
theorem atr_stays (L : List Int) : Stays (atrP L) := ⟨fun _ _ => rfl⟩
theorem evt_stays (L : List Int) : Stays (evtP L) := ⟨fun _ _ => rfl⟩
variable {L : List Int}
theorem bytes_drop (hb : Bytes L) (n : Nat) : Bytes (L.drop n) := fun x hx => hb x (List.mem_of_mem_drop hx)
theorem eight_one (hb : Bytes L) : OneForm L (eightP L) raw8 fun _ => True := by
  intro n x m hn h _
  simp only [eightP] at h
  unfold rawR at h
  rw [if_neg (by omega)] at h
  split at h
  · rename_i q' m' he
    split at he
    · cases he
    · injection he with h1 h2
      injection h with h3 h4
      injection h4 with h4
      have e8 : (8 : Int).toNat = 8 := rfl
      rw [e8] at h1 h2
      have hl : q'.length = 8 := by rw [← h1, List.length_take, List.length_drop]; omega
      have hqb : Bytes q' := by rw [← h1]; exact fun y hy => bytes_drop hb n y (List.mem_of_mem_take hy)
      refine ⟨by omega, by omega, ?_⟩
      rw [← h3, (raw8_of8 q' hqb hl).1, ← h1]
      unfold seg
      congr 1
      omega
  · injection h with h3 h4
    cases h4
theorem num_one (hb : Bytes L) : OneForm L (numP L) venc fun _ => True := by
  intro n x m hn h _
  simp only [numP] at h
  split at h
  · rename_i y k he
    injection h with h1 h2
    injection h2 with h2
    have hsz := numR_size _ _ _ _ _ he
    rw [List.length_drop] at hsz
    refine ⟨by omega, by omega, ?_⟩
    unfold seg
    rw [show m - n = k by omega, numR_one (bytes_drop hb n) he, h1]
  · injection h with _ h2; cases h2
  · injection h with _ h2; cases h2
theorem num_lt {n x m : Nat} (h : numP L (.ok n) = (x, .ok m)) : x < 18446744073709551616 := by
  simp only [numP] at h
  split at h
  · rename_i y k he
    injection h with h1 h2
    rw [← h1]
    exact numR_lt _ _ _ _ _ he
  · injection h with _ h2; cases h2
  · injection h with _ h2; cases h2
theorem sig_one (hb : Bytes L) : OneForm L (sigP L) (fun i => venc (zig i).toNat) fun _ => True := by
  intro n x m hn h _
  simp only [sigP] at h
  split at h
  · rename_i y k he
    injection h with h1 h2
    injection h2 with h2
    have hsz := numR_size _ _ _ _ _ he
    rw [List.length_drop] at hsz
    refine ⟨by omega, by omega, ?_⟩
    unfold seg
    rw [show m - n = k by omega, numR_one (bytes_drop hb n) he, ← h1]
    show _ = venc (zig (zag y)).toNat
    rw [zigzag y (by omega), Int.toNat_natCast]
  · injection h with _ h2; cases h2
  · injection h with _ h2; cases h2
theorem octs_str {q : List Int} (h : Bytes q) : octs (strOfNums q) = q := by
  unfold octs
  rw [strOfNums_data, List.map_map]
  conv => rhs; rw [← List.map_id q]
  refine List.map_congr_left fun x hx => ?_
  have := h x hx
  simp only [Function.comp, id]
  rw [UInt8.toNat_ofNat']
  omega
/-- A text, with its bytes as they are. -/
def txtB (L : List Int) (most : Int) (st : DSt) : ByteArray × DSt := (strOfNums (txtP L most st).1, (txtP L most st).2)
theorem txt_one (hb : Bytes L) (most : Int) : OneForm L (txtB L most) txt fun _ => True := by
  intro n x m hn h _
  simp only [txtB, txtP] at h
  injection h with h1 h2
  split at h2
  · rename_i q' m' he
    injection h2 with h2
    subst h2
    obtain ⟨g1, g2, g3, _, g5⟩ := textR_ok hb hn he
    refine ⟨g1, g2, ?_⟩
    rw [he] at h1
    unfold seg txt
    rw [g3, ← h1, strOfNums_size, octs_str g5]
  · cases h2
theorem many_one (hb : Bytes L) (most : Nat) (e : Int) : OneForm L (manyP L most e) venc fun _ => True := by
  intro n x m hn h _
  simp only [manyP] at h
  split at h
  · rename_i y k he
    split at h
    · injection h with _ h2; cases h2
    · injection h with h1 h2
      injection h2 with h2
      subst h1 h2
      exact num_one hb n _ _ hn he trivial
  · injection h with _ h2; cases h2
theorem iter_one {α : Type} {f : DSt → α × DSt} {enc : α → List Int} {C : α → Prop} (hf : OneForm L f enc C) (hs : Stays f) (k : Nat) : OneForm L (iterP f k) (fun l => l.flatMap enc) (fun l => ∀ x ∈ l, C x) := by
  induction k with
  | zero =>
    intro n x m hn h _
    simp only [iterP] at h
    injection h with h1 h2
    injection h2 with h2
    subst h1 h2
    exact ⟨Nat.le_refl _, hn, by simp [seg]⟩
  | succ k ih =>
    intro n x m hn h hc
    simp only [iterP] at h
    injection h with h1 h2
    obtain ⟨n1, hn1⟩ := hs.ok h2
    have h3 := ih n (iterP f k (.ok n)).1 n1 hn (by rw [← hn1]) (fun y hy => hc y (by rw [← h1]; simp [hy]))
    rw [hn1] at h1 h2
    have h4 := hf n1 (f (.ok n1)).1 m h3.2.1 (by rw [← h2]) (hc _ (by rw [← h1]; simp))
    refine ⟨by omega, h4.2.1, ?_⟩
    rw [seg_trans L h3.1 h4.1, h3.2.2, h4.2.2, ← h1]
    simp only [List.flatMap_append, List.flatMap_cons, List.flatMap_nil, List.append_nil]
theorem iter_len {α : Type} (f : DSt → α × DSt) (st : DSt) : ∀ k, (iterP f k st).1.length = k
  | 0 => rfl
  | k + 1 => by simp only [iterP]; rw [List.length_append, iter_len f st k]; rfl
theorem eight_back : Back L (eightP L) raw8 fun v => v < 18446744073709551616 := fun n x rest hv he => eightP_back hv he
theorem num_back : Back L (numP L) venc fun v => v < 18446744073709551616 := fun n x rest hv he => numP_back hv he
theorem sig_back : Back L (sigP L) (fun i => venc (zig i).toNat) fun i => -9223372036854775808 ≤ i ∧ i < 9223372036854775808 := by
  intro n x rest hv he
  have hz := zig_range x hv.1 hv.2
  simp only [sigP]
  rw [he, numR_venc _ rest (by omega)]
  simp only
  rw [Int.toNat_of_nonneg hz.1, zagzig]
theorem txt_back (most : Nat) (hm : most < 18446744073709551616) : Back L (txtB L most) txt fun s => s.size ≤ most ∧ Lib.validD s.data.toList = true := by
  intro n x rest hv he
  have hl : (octs x).length = x.size := octs_len x
  unfold txt at he
  have := textR_written (most := most) (q := octs x) (by rw [hl]; exact he) (valid_runes' x hv.2) (by omega) (by omega)
  simp only [txtB, txtP, this]
  rw [strOfNums_octs, hl]
  unfold txt
  rw [List.length_append, hl, Nat.add_assoc]
theorem many_back (most : Nat) (e : Int) (hm : most < 18446744073709551616) : Back L (manyP L most e) venc fun v => v ≤ most := by
  intro n x rest hv he
  simp only [manyP]
  rw [numP_back (by omega) he]
  simp only
  rw [if_neg (by omega)]
theorem iter_back {α : Type} {f : DSt → α × DSt} {enc : α → List Int} {V : α → Prop} (hf : Back L f enc V) (l : List α) : ∀ n rest, (∀ x ∈ l, V x) → L.drop n = l.flatMap enc ++ rest → iterP f l.length (.ok n) = (l, .ok (n + (l.flatMap enc).length)) := by
  induction hk : l.length generalizing l with
  | zero =>
    intro n rest _ _
    obtain rfl : l = [] := List.eq_nil_of_length_eq_zero hk
    simp [iterP]
  | succ k ih =>
    intro n rest hv he
    obtain ⟨i, x, rfl⟩ : ∃ i x, l = i ++ [x] := by
      have hne : l ≠ [] := by rintro rfl; simp at hk
      exact ⟨l.dropLast, l.getLast hne, (List.dropLast_concat_getLast hne).symm⟩
    have hl : i.length = k := by simpa using hk
    rw [List.flatMap_append] at he ⊢
    have e1 : [x].flatMap enc = enc x := by simp
    rw [e1] at he ⊢
    have h1 := ih i hl n (enc x ++ rest) (fun y hy => hv y (by simp [hy])) (by rw [he, List.append_assoc])
    have h2 := hf (n + (i.flatMap enc).length) x rest (hv x (by simp)) (by rw [drop_next (a := i.flatMap enc) (rest := enc x ++ rest) (by rw [he, List.append_assoc])])
    simp only [iterP]
    rw [h1]
    simp only
    rw [h2]
    simp only [List.length_append, Nat.add_assoc]
end Go.Proofs.YtniigjfimggobaaDoor
