import Derived.Test.YtlcbgklealipoaaGreatDoorZS
import Derived.Test.YtlcbgklealipoaaGreatDoorRx
import Derived.Lib.ValidLaws
section
/- A span's bytes, and what is read of bytes (plain). -/
namespace Go.Proofs.YtlcbgklealipoaaGreatDoor
open Go.RowKit
set_option linter.unusedVariables false
set_option linter.unusedSimpArgs false

/-- A number in so many bytes, the highest first. -/
def digs : Nat → Nat → List Int
  | 0, _ => []
  | n + 1, v => digs n (v / 256) ++ [((v % 256 : Nat) : Int)]
def raw8 (v : Nat) : List Int := digs 8 v
def of8 (l : List Int) : Nat := l.foldl (fun v c => v * 256 + c.toNat) 0
theorem of8_snoc (l : List Int) (c : Int) : of8 (l ++ [c]) = of8 l * 256 + c.toNat := by simp [of8, List.foldl_append]
theorem digs_len : ∀ n v, (digs n v).length = n
  | 0, _ => rfl
  | n + 1, v => by rw [digs, List.length_append, digs_len n]; rfl
theorem raw8_len (v : Nat) : (raw8 v).length = 8 := digs_len 8 v
theorem digs_bytes : ∀ n v, Bytes (digs n v)
  | 0, _ => fun x hx => by cases hx
  | n + 1, v => fun x hx => by
    rw [digs] at hx
    rcases List.mem_append.1 hx with h | h
    · exact digs_bytes n _ x h
    · simp only [List.mem_singleton] at h
      omega
theorem raw8_bytes (v : Nat) : Bytes (raw8 v) := digs_bytes 8 v
theorem raw8_eq (v : Nat) : raw8 v = [((v / 72057594037927936 % 256 : Nat) : Int), ((v / 281474976710656 % 256 : Nat) : Int), ((v / 1099511627776 % 256 : Nat) : Int), ((v / 4294967296 % 256 : Nat) : Int), ((v / 16777216 % 256 : Nat) : Int), ((v / 65536 % 256 : Nat) : Int), ((v / 256 % 256 : Nat) : Int), ((v % 256 : Nat) : Int)] := by
  simp only [raw8, digs, Nat.div_div_eq_div_mul, List.nil_append, List.cons_append]
theorem of8_digs : ∀ n v, v < 256 ^ n → of8 (digs n v) = v
  | 0, v, h => by simp at h; rw [h]; rfl
  | n + 1, v, h => by
    rw [digs, of8_snoc, of8_digs n (v / 256) (by rw [Nat.pow_succ] at h; exact Nat.div_lt_of_lt_mul (by rw [Nat.mul_comm]; exact h))]
    omega
theorem of8_raw8 (v : Nat) (h : v < 18446744073709551616) : of8 (raw8 v) = v := of8_digs 8 v h
theorem digs_of8 : ∀ n (l : List Int), Bytes l → l.length = n → digs n (of8 l) = l ∧ of8 l < 256 ^ n
  | 0, l, _, h => by
    obtain rfl : l = [] := List.eq_nil_of_length_eq_zero h
    exact ⟨rfl, by decide⟩
  | n + 1, l, hb, h => by
    obtain ⟨i, c, rfl⟩ : ∃ i c, l = i ++ [c] := by
      have hne : l ≠ [] := by rintro rfl; simp at h
      exact ⟨l.dropLast, l.getLast hne, (List.dropLast_concat_getLast hne).symm⟩
    have hl : i.length = n := by simpa using h
    have hc := hb c (by simp)
    obtain ⟨h1, h2⟩ := digs_of8 n i (fun x hx => hb x (by simp [hx])) hl
    rw [of8_snoc, digs]
    obtain ⟨k, rfl⟩ : ∃ k : Nat, c = k := ⟨c.toNat, by omega⟩
    rw [show (of8 i * 256 + (k : Int).toNat) / 256 = of8 i by omega, show (of8 i * 256 + (k : Int).toNat) % 256 = k by omega, h1]
    refine ⟨rfl, ?_⟩
    rw [Nat.pow_succ]
    omega
theorem raw8_of8 (l : List Int) (hb : Bytes l) (h : l.length = 8) : raw8 (of8 l) = l ∧ of8 l < 18446744073709551616 := digs_of8 8 l hb h
def txt (s : ByteArray) : List Int := venc s.size ++ octs s
def encA (a : Atr) : List Int := txt a.key ++ (venc a.k.toNat ++ (txt a.t ++ venc (zig a.i).toNat))
def encE (e : Evt) : List Int := venc e.at_.toNat ++ txt e.n
/-- A span's bytes. -/
def encS (s : Spn) : List Int :=
  raw8 s.hi ++ (raw8 s.lo ++ (raw8 s.id ++ (raw8 s.par ++ (venc s.links.length ++ (s.links.flatMap raw8 ++ (txt s.svc ++ (txt s.op ++ (venc s.kind.toNat ++ (venc s.st.toNat ++ (venc s.start.toNat ++ (venc s.fin.toNat ++
    (venc s.ats.length ++ (s.ats.flatMap encA ++ (venc s.evs.length ++ s.evs.flatMap encE))))))))))))))

/-- Where a source stands: at a place, or with what was wrong first. -/
inductive DSt where
  | ok (n : Nat)
  | bad (a no : Int)
def eightP (L : List Int) : DSt → Nat × DSt
  | .ok n => match rawR L n 8 with | .ok q m => (of8 q, .ok m) | .err a no => (0, .bad a no)
  | .bad a no => (0, .bad a no)
def numP (L : List Int) : DSt → Nat × DSt
  | .ok n => match numR (L.drop n) 0 0 with | .ok x k => (x, .ok (n + k)) | .form => (0, .bad n 12) | .fin => (0, .bad L.length 11)
  | .bad a no => (0, .bad a no)
def sigP (L : List Int) : DSt → Int × DSt
  | .ok n => match numR (L.drop n) 0 0 with | .ok x k => (zag x, .ok (n + k)) | .form => (0, .bad n 12) | .fin => (0, .bad L.length 11)
  | .bad a no => (0, .bad a no)
def txtP (L : List Int) (most : Int) : DSt → List Int × DSt
  | .ok n => match textR L n most with | .ok q m => (q, .ok m) | .err a no => ([], .bad a no)
  | .bad a no => ([], .bad a no)
def manyP (L : List Int) (most : Nat) (e : Int) : DSt → Nat × DSt
  | .ok n => match numP L (.ok n) with | (x, .ok m) => if most < x then (0, .bad n e) else (x, .ok m) | (_, .bad a no) => (0, .bad a no)
  | .bad a no => (0, .bad a no)
def smallN (v : Nat) : Nat := if 1000 < v then 1000 else v
def momentN (v : Nat) : Nat := if 4611686018427387904 < v then 4611686018427387905 else v
/-- So many, one behind the other. -/
def iterP {α : Type} (f : DSt → α × DSt) : Nat → DSt → List α × DSt
  | 0, st => ([], st)
  | j + 1, st => ((iterP f j st).1 ++ [(f (iterP f j st).2).1], (f (iterP f j st).2).2)
def atrP (L : List Int) (st : DSt) : Atr × DSt :=
  let k := txtP L 40 st
  let v := numP L k.2
  let t := txtP L 200 v.2
  let i := sigP L t.2
  (⟨strOfNums k.1, smallN v.1, strOfNums t.1, i.1⟩, i.2)
def evtP (L : List Int) (st : DSt) : Evt × DSt :=
  let a := numP L st
  let n := txtP L 100 a.2
  (⟨momentN a.1, strOfNums n.1⟩, n.2)
/-- A span, up to the end of what is read. -/
def spnP (L : List Int) : Spn × DSt :=
  let hi := eightP L (.ok 0)
  let lo := eightP L hi.2
  let id := eightP L lo.2
  let par := eightP L id.2
  let nl := manyP L 16 45 par.2
  let ls := iterP (eightP L) nl.1 nl.2
  let svc := txtP L 60 ls.2
  let op := txtP L 100 svc.2
  let kd := numP L op.2
  let st := numP L kd.2
  let sta := numP L st.2
  let fin := numP L sta.2
  let na := manyP L 32 46 fin.2
  let al := iterP (atrP L) na.1 na.2
  let ne := manyP L 32 47 al.2
  let el := iterP (evtP L) ne.1 ne.2
  (⟨hi.1, lo.1, id.1, par.1, ls.1, strOfNums svc.1, strOfNums op.1, smallN kd.1, smallN st.1, momentN sta.1, momentN fin.1, al.1, el.1⟩, el.2)
/-- What Decode answers. -/
inductive DRes where
  | ok (s : Spn)
  | err (a no : Int)
def decS (L : List Int) : DRes :=
  match (spnP L).2 with
  | .bad a no => .err a no
  | .ok n => if n < L.length then .err n 15 else if checkS (spnP L).1 = 0 then .ok (spnP L).1 else .err 0 (checkS (spnP L).1)

/-! ### there and back -/
theorem eightP_back {L : List Int} {n v : Nat} {rest : List Int} (h : v < 18446744073709551616) (he : L.drop n = raw8 v ++ rest) : eightP L (.ok n) = (v, .ok (n + (raw8 v).length)) := by
  have := rawR_written he
  rw [raw8_len] at this
  simp only [eightP]
  rw [show (8 : Int) = ((8 : Nat) : Int) from rfl, this]
  simp only [of8_raw8 v h, raw8_len]
theorem numP_back {L : List Int} {n v : Nat} {rest : List Int} (h : v < 18446744073709551616) (he : L.drop n = venc v ++ rest) : numP L (.ok n) = (v, .ok (n + (venc v).length)) := by
  simp only [numP]
  rw [he, numR_venc v rest h]
end Go.Proofs.YtlcbgklealipoaaGreatDoor
end

section
/- What is encoded is decoded, and of any bytes what is decoded has just these bytes (plain). -/
namespace Go.Proofs.YtlcbgklealipoaaGreatDoor
open Go.RowKit
set_option linter.unusedVariables false
set_option linter.unusedSimpArgs false

/-! ### a valid text is runes -/
theorem octs_mk (l : List UInt8) : octs ⟨l.toArray⟩ = l.map fun b => (b.toNat : Int) := by simp [octs]
theorem valid_runes (l : List UInt8) (h : Lib.validD l = true) : Runes (l.map fun b => (b.toNat : Int)) := by
  induction hn : l.length using Nat.strongRecOn generalizing l with
  | _ n ih =>
    by_cases h0 : l = []
    · subst h0; exact .nil
    · rw [Lib.validD_step l h0] at h
      have hb : Bytes (l.map fun b => (b.toNat : Int)) := by rw [← octs_mk]; exact octs_bytes _
      have hne : (l.map fun b => (b.toNat : Int)) ≠ [] := by simpa using h0
      have hd := decode_nums _ hb hne
      have hs : strOfNums (l.map fun b => (b.toNat : Int)) = ⟨l.toArray⟩ := by rw [← octs_mk, strOfNums_octs]
      rw [hs] at hd
      have he : Lib.decodeGo ⟨l.toArray⟩ = Lib.decodeL l := by
        unfold Lib.decodeGo Lib.decodeL
        rw [if_neg]
        have := List.length_pos_iff.2 h0
        have e : (⟨l.toArray⟩ : ByteArray).size = l.length := by simp [ByteArray.size]
        omega
      rw [he] at hd
      by_cases hr : rn (l.map fun b => (b.toNat : Int)) = 0
      · have := hd.1 hr
        rw [this] at h
        simp at h
      · obtain ⟨h1, h2⟩ := hd.2 hr
        rw [if_neg (by omega)] at h
        refine .cons (by omega) ?_
        rw [← List.map_drop, ← h1]
        refine ih _ ?_ _ h rfl
        rw [List.length_drop]
        have := List.length_pos_iff.2 h0
        omega
theorem valid_runes' (s : ByteArray) (h : Lib.validD s.data.toList = true) : Runes (octs s) := valid_runes s.data.toList h

/-! ### parts of the bytes -/
def seg (L : List Int) (n m : Nat) : List Int := (L.drop n).take (m - n)
theorem seg_trans (L : List Int) {n m k : Nat} (h : n ≤ m) (h2 : m ≤ k) : seg L n k = seg L n m ++ seg L m k := by
  unfold seg
  rw [show k - n = (m - n) + (k - m) by omega, List.take_add, List.drop_drop, show n + (m - n) = m by omega]
theorem drop_next {L a rest : List Int} {n : Nat} (h : L.drop n = a ++ rest) : L.drop (n + a.length) = rest := by
  rw [← List.drop_drop, h, List.drop_left]
/-- What stays wrong, and what a good end says of the beginning. -/
structure Stays {α : Type} (f : DSt → α × DSt) : Prop where
  bad : ∀ a no, (f (.bad a no)).2 = .bad a no
theorem Stays.ok {α : Type} {f : DSt → α × DSt} (h : Stays f) {st : DSt} {m : Nat} (e : (f st).2 = .ok m) : ∃ n, st = .ok n := by
  cases st with
  | ok n => exact ⟨n, rfl⟩
  | bad a no => rw [h.bad] at e; cases e
/-- What was read is written by just these bytes. -/
def OneForm {α : Type} (L : List Int) (f : DSt → α × DSt) (enc : α → List Int) (C : α → Prop) : Prop :=
  ∀ n x m, n ≤ L.length → f (.ok n) = (x, .ok m) → C x → n ≤ m ∧ m ≤ L.length ∧ seg L n m = enc x
/-- What is written is read. -/
def Back {α : Type} (L : List Int) (f : DSt → α × DSt) (enc : α → List Int) (V : α → Prop) : Prop :=
  ∀ n x rest, V x → L.drop n = enc x ++ rest → f (.ok n) = (x, .ok (n + (enc x).length))
theorem eight_stays (L : List Int) : Stays (eightP L) := ⟨fun _ _ => rfl⟩
theorem num_stays (L : List Int) : Stays (numP L) := ⟨fun _ _ => rfl⟩
theorem sig_stays (L : List Int) : Stays (sigP L) := ⟨fun _ _ => rfl⟩
theorem txt_stays (L : List Int) (most : Int) : Stays (txtP L most) := ⟨fun _ _ => rfl⟩
theorem many_stays (L : List Int) (most : Nat) (e : Int) : Stays (manyP L most e) := ⟨fun _ _ => rfl⟩
theorem iter_stays {α : Type} {f : DSt → α × DSt} (h : Stays f) (k : Nat) : Stays (iterP f k) := by
  refine ⟨fun a no => ?_⟩
  induction k with
  | zero => rfl
  | succ k ih => simp only [iterP]; rw [ih, h.bad]
theorem atr_stays (L : List Int) : Stays (atrP L) := ⟨fun _ _ => rfl⟩
theorem evt_stays (L : List Int) : Stays (evtP L) := ⟨fun _ _ => rfl⟩
variable {L : List Int}
theorem bytes_drop (hb : Bytes L) (n : Nat) : Bytes (L.drop n) := fun x hx => hb x (List.mem_of_mem_drop hx)
theorem eight_one (hb : Bytes L) : OneForm L (eightP L) raw8 fun _ => True := by
  intro n x m hn h _
  simp only [eightP] at h
  unfold rawR at h
  rw [if_neg (by omega)] at h
  split at h
  · rename_i q' m' he
    split at he
    · cases he
    · injection he with h1 h2
      injection h with h3 h4
      injection h4 with h4
      have e8 : (8 : Int).toNat = 8 := rfl
      rw [e8] at h1 h2
      have hl : q'.length = 8 := by rw [← h1, List.length_take, List.length_drop]; omega
      have hqb : Bytes q' := by rw [← h1]; exact fun y hy => bytes_drop hb n y (List.mem_of_mem_take hy)
      refine ⟨by omega, by omega, ?_⟩
      rw [← h3, (raw8_of8 q' hqb hl).1, ← h1]
      unfold seg
      congr 1
      omega
  · injection h with h3 h4
    cases h4
theorem num_one (hb : Bytes L) : OneForm L (numP L) venc fun _ => True := by
  intro n x m hn h _
  simp only [numP] at h
  split at h
  · rename_i y k he
    injection h with h1 h2
    injection h2 with h2
    have hsz := numR_size _ _ _ _ _ he
    rw [List.length_drop] at hsz
    refine ⟨by omega, by omega, ?_⟩
    unfold seg
    rw [show m - n = k by omega, numR_one (bytes_drop hb n) he, h1]
  · injection h with _ h2; cases h2
  · injection h with _ h2; cases h2
theorem num_lt {n x m : Nat} (h : numP L (.ok n) = (x, .ok m)) : x < 18446744073709551616 := by
  simp only [numP] at h
  split at h
  · rename_i y k he
    injection h with h1 h2
    rw [← h1]
    exact numR_lt _ _ _ _ _ he
  · injection h with _ h2; cases h2
  · injection h with _ h2; cases h2
theorem sig_one (hb : Bytes L) : OneForm L (sigP L) (fun i => venc (zig i).toNat) fun _ => True := by
  intro n x m hn h _
  simp only [sigP] at h
  split at h
  · rename_i y k he
    injection h with h1 h2
    injection h2 with h2
    have hsz := numR_size _ _ _ _ _ he
    rw [List.length_drop] at hsz
    refine ⟨by omega, by omega, ?_⟩
    unfold seg
    rw [show m - n = k by omega, numR_one (bytes_drop hb n) he, ← h1]
    show _ = venc (zig (zag y)).toNat
    rw [zigzag y (by omega), Int.toNat_natCast]
  · injection h with _ h2; cases h2
  · injection h with _ h2; cases h2
theorem octs_str {q : List Int} (h : Bytes q) : octs (strOfNums q) = q := by
  unfold octs
  rw [strOfNums_data, List.map_map]
  conv => rhs; rw [← List.map_id q]
  refine List.map_congr_left fun x hx => ?_
  have := h x hx
  simp only [Function.comp, id]
  rw [UInt8.toNat_ofNat']
  omega
/-- A text, with its bytes as they are. -/
def txtB (L : List Int) (most : Int) (st : DSt) : ByteArray × DSt := (strOfNums (txtP L most st).1, (txtP L most st).2)
theorem txt_one (hb : Bytes L) (most : Int) : OneForm L (txtB L most) txt fun _ => True := by
  intro n x m hn h _
  simp only [txtB, txtP] at h
  injection h with h1 h2
  split at h2
  · rename_i q' m' he
    injection h2 with h2
    subst h2
    obtain ⟨g1, g2, g3, _, g5⟩ := textR_ok hb hn he
    refine ⟨g1, g2, ?_⟩
    rw [he] at h1
    unfold seg txt
    rw [g3, ← h1, strOfNums_size, octs_str g5]
  · cases h2
theorem many_one (hb : Bytes L) (most : Nat) (e : Int) : OneForm L (manyP L most e) venc fun _ => True := by
  intro n x m hn h _
  simp only [manyP] at h
  split at h
  · rename_i y k he
    split at h
    · injection h with _ h2; cases h2
    · injection h with h1 h2
      injection h2 with h2
      subst h1 h2
      exact num_one hb n _ _ hn he trivial
  · injection h with _ h2; cases h2
theorem iter_one {α : Type} {f : DSt → α × DSt} {enc : α → List Int} {C : α → Prop} (hf : OneForm L f enc C) (hs : Stays f) (k : Nat) : OneForm L (iterP f k) (fun l => l.flatMap enc) (fun l => ∀ x ∈ l, C x) := by
  induction k with
  | zero =>
    intro n x m hn h _
    simp only [iterP] at h
    injection h with h1 h2
    injection h2 with h2
    subst h1 h2
    exact ⟨Nat.le_refl _, hn, by simp [seg]⟩
  | succ k ih =>
    intro n x m hn h hc
    simp only [iterP] at h
    injection h with h1 h2
    obtain ⟨n1, hn1⟩ := hs.ok h2
    have h3 := ih n (iterP f k (.ok n)).1 n1 hn (by rw [← hn1]) (fun y hy => hc y (by rw [← h1]; simp [hy]))
    rw [hn1] at h1 h2
    have h4 := hf n1 (f (.ok n1)).1 m h3.2.1 (by rw [← h2]) (hc _ (by rw [← h1]; simp))
    refine ⟨by omega, h4.2.1, ?_⟩
    rw [seg_trans L h3.1 h4.1, h3.2.2, h4.2.2, ← h1]
    simp only [List.flatMap_append, List.flatMap_cons, List.flatMap_nil, List.append_nil]
theorem iter_len {α : Type} (f : DSt → α × DSt) (st : DSt) : ∀ k, (iterP f k st).1.length = k
  | 0 => rfl
  | k + 1 => by simp only [iterP]; rw [List.length_append, iter_len f st k]; rfl
theorem eight_back : Back L (eightP L) raw8 fun v => v < 18446744073709551616 := fun n x rest hv he => eightP_back hv he
theorem num_back : Back L (numP L) venc fun v => v < 18446744073709551616 := fun n x rest hv he => numP_back hv he
theorem sig_back : Back L (sigP L) (fun i => venc (zig i).toNat) fun i => -9223372036854775808 ≤ i ∧ i < 9223372036854775808 := by
  intro n x rest hv he
  have hz := zig_range x hv.1 hv.2
  simp only [sigP]
  rw [he, numR_venc _ rest (by omega)]
  simp only
  rw [Int.toNat_of_nonneg hz.1, zagzig]
theorem txt_back (most : Nat) (hm : most < 18446744073709551616) : Back L (txtB L most) txt fun s => s.size ≤ most ∧ Lib.validD s.data.toList = true := by
  intro n x rest hv he
  have hl : (octs x).length = x.size := octs_len x
  unfold txt at he
  have := textR_written (most := most) (q := octs x) (by rw [hl]; exact he) (valid_runes' x hv.2) (by omega) (by omega)
  simp only [txtB, txtP, this]
  rw [strOfNums_octs, hl]
  unfold txt
  rw [List.length_append, hl, Nat.add_assoc]
theorem many_back (most : Nat) (e : Int) (hm : most < 18446744073709551616) : Back L (manyP L most e) venc fun v => v ≤ most := by
  intro n x rest hv he
  simp only [manyP]
  rw [numP_back (by omega) he]
  simp only
  rw [if_neg (by omega)]
theorem iter_back {α : Type} {f : DSt → α × DSt} {enc : α → List Int} {V : α → Prop} (hf : Back L f enc V) (l : List α) : ∀ n rest, (∀ x ∈ l, V x) → L.drop n = l.flatMap enc ++ rest → iterP f l.length (.ok n) = (l, .ok (n + (l.flatMap enc).length)) := by
  induction hk : l.length generalizing l with
  | zero =>
    intro n rest _ _
    obtain rfl : l = [] := List.eq_nil_of_length_eq_zero hk
    simp [iterP]
  | succ k ih =>
    intro n rest hv he
    obtain ⟨i, x, rfl⟩ : ∃ i x, l = i ++ [x] := by
      have hne : l ≠ [] := by rintro rfl; simp at hk
      exact ⟨l.dropLast, l.getLast hne, (List.dropLast_concat_getLast hne).symm⟩
    have hl : i.length = k := by simpa using hk
    rw [List.flatMap_append] at he ⊢
    have e1 : [x].flatMap enc = enc x := by simp
    rw [e1] at he ⊢
    have h1 := ih i hl n (enc x ++ rest) (fun y hy => hv y (by simp [hy])) (by rw [he, List.append_assoc])
    have h2 := hf (n + (i.flatMap enc).length) x rest (hv x (by simp)) (by rw [drop_next (a := i.flatMap enc) (rest := enc x ++ rest) (by rw [he, List.append_assoc])])
    simp only [iterP]
    rw [h1]
    simp only
    rw [h2]
    simp only [List.length_append, Nat.add_assoc]
end Go.Proofs.YtlcbgklealipoaaGreatDoor
end

section
/- A span there and back (plain). -/
namespace Go.Proofs.YtlcbgklealipoaaGreatDoor
open Go.RowKit
set_option linter.unusedVariables false
set_option linter.unusedSimpArgs false

/-- What Check says of a span that may be. -/
structure Fine (s : Spn) : Prop where
  ids : ¬ (s.hi = 0 ∧ s.lo = 0) ∧ s.id ≠ 0
  start : 0 ≤ s.start ∧ s.start ≤ s.fin ∧ s.fin ≤ 4611686018427387904
  svc : plainS s.svc 60 33 = true
  op : plainS s.op 100 32 = true
  kind : 0 ≤ s.kind ∧ s.kind ≤ 4
  st : 0 ≤ s.st ∧ s.st ≤ 2
  links : s.links.length ≤ 16
  ats : s.ats.length ≤ 32 ∧ ∀ a ∈ s.ats, keyedS a.key = true ∧ valuedS a = true
  evs : s.evs.length ≤ 32 ∧ ∀ e ∈ s.evs, 0 ≤ e.at_ ∧ e.at_ ≤ 4611686018427387904 ∧ plainS e.n 100 32 = true
theorem carries_all : ∀ (l : List Atr) (p : Option Atr), carriesS p l = true → ∀ a ∈ l, keyedS a.key = true ∧ valuedS a = true
  | [], _, _, a, ha => by cases ha
  | x :: r, p, h, a, ha => by
    simp only [carriesS, Bool.and_eq_true] at h
    rcases List.mem_cons.1 ha with rfl | ha
    · exact h.1.1
    · exact carries_all r _ h.2 a ha
theorem tells_all : ∀ (l : List Evt) (p : Option Evt), tellsS p l = true → ∀ e ∈ l, 0 ≤ e.at_ ∧ e.at_ ≤ 4611686018427387904 ∧ plainS e.n 100 32 = true
  | [], _, _, a, ha => by cases ha
  | x :: r, p, h, a, ha => by
    simp only [tellsS, Bool.and_eq_true, decide_eq_true_eq] at h
    rcases List.mem_cons.1 ha with rfl | ha
    · exact ⟨h.1.1.1.1, h.1.1.1.2, h.1.1.2⟩
    · exact tells_all r _ h.2 a ha
theorem fine_of {s : Spn} (h : checkS s = 0) : Fine s := by
  unfold checkS at h
  by_cases h1 : (s.hi = 0 ∧ s.lo = 0) ∨ s.id = 0
  · rw [if_pos h1] at h; omega
  · rw [if_neg h1] at h
    by_cases h2 : s.start < 0 ∨ s.fin < s.start ∨ 4611686018427387904 < s.fin
    · rw [if_pos h2] at h; omega
    · rw [if_neg h2] at h
      by_cases h3 : plainS s.svc 60 33 = false ∨ plainS s.op 100 32 = false
      · rw [if_pos h3] at h; omega
      · rw [if_neg h3] at h
        by_cases h4 : s.kind < 0 ∨ 4 < s.kind ∨ s.st < 0 ∨ 2 < s.st
        · rw [if_pos h4] at h; omega
        · rw [if_neg h4] at h
          by_cases h5 : linkedS s = false
          · rw [if_pos h5] at h; omega
          · rw [if_neg h5] at h
            by_cases h6 : carriedS s.ats = false
            · rw [if_pos h6] at h; omega
            · rw [if_neg h6] at h
              by_cases h7 : toldS s.evs = false
              · rw [if_pos h7] at h; omega
              · simp only [Bool.not_eq_false] at h5 h6 h7
                simp only [linkedS, carriedS, toldS, Bool.and_eq_true, decide_eq_true_eq] at h5 h6 h7
                refine ⟨⟨fun e => h1 (.inl e), fun e => h1 (.inr e)⟩, by omega, ?_, ?_, by omega, by omega, h5.2, ⟨h6.2, carries_all _ _ h6.1⟩, ⟨h7.2, tells_all _ _ h7.1⟩⟩
                · cases e : plainS s.svc 60 33
                  · exact absurd (.inl e) h3
                  · rfl
                · cases e : plainS s.op 100 32
                  · exact absurd (.inr e) h3
                  · rfl
theorem plain_size {s : ByteArray} {most fr : Nat} (h : plainS s most fr = true) : 0 < s.size ∧ s.size ≤ most ∧ Lib.validD s.data.toList = true := by
  simp only [plainS, Bool.and_eq_true, Bool.not_eq_true', decide_eq_false_iff_not, decide_eq_true_eq] at h
  exact ⟨by omega, h.2.1, h.2.2.1⟩
/-- Ascii is UTF-8. -/
theorem ascii_valid (l : List UInt8) (h : ∀ b ∈ l, b.toNat < 128) : Lib.validD l = true := by
  induction l with
  | nil => exact Lib.validD_nil
  | cons b t ih =>
    rw [Lib.validD_cons b t (h b (by simp))]
    exact ih fun c hc => h c (by simp [hc])
theorem keyed_size {s : ByteArray} (h : keyedS s = true) : 0 < s.size ∧ s.size ≤ 40 ∧ Lib.validD s.data.toList = true := by
  simp only [keyedS, Bool.and_eq_true, Bool.not_eq_true', decide_eq_false_iff_not, decide_eq_true_eq, List.all_eq_true] at h
  refine ⟨by omega, h.2.1, ascii_valid _ fun b hb => ?_⟩
  have := h.2.2.2 b hb
  simp only [keyB, decide_eq_true_eq] at this
  omega
theorem valued_ok {a : Atr} (h : valuedS a = true) : 0 ≤ a.k ∧ a.k ≤ 2 ∧ a.t.size ≤ 200 ∧ Lib.validD a.t.data.toList = true := by
  unfold valuedS at h
  split at h
  · simp only [Bool.and_eq_true, decide_eq_true_eq] at h
    exact ⟨by omega, by omega, h.2.1, h.2.2⟩
  · have empty : a.t.size = 0 → Lib.validD a.t.data.toList = true := fun e => by
      have : a.t.data.toList = [] := List.eq_nil_of_length_eq_zero (by rw [Array.length_toList]; exact e)
      rw [this]; rfl
    split at h
    · simp only [decide_eq_true_eq] at h
      exact ⟨by omega, by omega, by omega, empty h⟩
    · split at h
      · simp only [Bool.and_eq_true, decide_eq_true_eq] at h
        exact ⟨by omega, by omega, by omega, empty h.1⟩
      · cases h
variable {L : List Int}
theorem OneForm.go {α : Type} {f : DSt → α × DSt} {enc : α → List Int} {C : α → Prop} (h : OneForm L f enc C) {st : DSt} {n m : Nat} (hn : n ≤ L.length) (e : st = .ok n) (e2 : (f st).2 = .ok m) (hc : C (f st).1) :
    n ≤ m ∧ m ≤ L.length ∧ seg L n m = enc (f st).1 := by
  subst e
  exact h n _ m hn (by rw [← e2]) hc
theorem atr_one (hb : Bytes L) : OneForm L (atrP L) encA fun a => a.k < 1000 := by
  intro n x m hn h hc
  simp only [atrP] at h
  injection h with h1 h2
  obtain ⟨n3, e3⟩ := (sig_stays L).ok h2
  obtain ⟨n2, e2⟩ := (txt_stays L 200).ok e3
  obtain ⟨n1, e1⟩ := (num_stays L).ok e2
  have g1 := (txt_one hb 40).go (st := .ok n) hn rfl e1 trivial
  have g2 := (num_one hb).go g1.2.1 e1 e2 trivial
  have g3 := (txt_one hb 200).go g2.2.1 e2 e3 trivial
  have g4 := (sig_one hb).go g3.2.1 e3 h2 trivial
  refine ⟨by omega, g4.2.1, ?_⟩
  have hk : (numP L (txtP L 40 (.ok n)).2).1 < 1000 := by
    rw [← h1] at hc
    simp only [smallN] at hc
    split at hc <;> omega
  rw [seg_trans L g1.1 (by omega : n1 ≤ m), seg_trans L g2.1 (by omega : n2 ≤ m), seg_trans L g3.1 g4.1, g1.2.2, g2.2.2, g3.2.2, g4.2.2, ← h1]
  simp only [encA, txtB, smallN, if_neg (show ¬ 1000 < (numP L (txtP L 40 (.ok n)).2).1 by omega), Int.toNat_natCast]
theorem evt_one (hb : Bytes L) : OneForm L (evtP L) encE fun e => e.at_ ≤ 4611686018427387904 := by
  intro n x m hn h hc
  simp only [evtP] at h
  injection h with h1 h2
  obtain ⟨n1, e1⟩ := (txt_stays L 100).ok h2
  have g1 := (num_one hb).go (st := .ok n) hn rfl e1 trivial
  have g2 := (txt_one hb 100).go g1.2.1 e1 h2 trivial
  refine ⟨by omega, g2.2.1, ?_⟩
  have hk : (numP L (.ok n)).1 ≤ 4611686018427387904 := by
    rw [← h1] at hc
    simp only [momentN] at hc
    split at hc <;> omega
  rw [seg_trans L g1.1 g2.1, g1.2.2, g2.2.2, ← h1]
  simp only [encE, txtB, momentN, if_neg (show ¬ 4611686018427387904 < (numP L (.ok n)).1 by omega), Int.toNat_natCast]
theorem atr_back : Back L (atrP L) encA fun a => keyedS a.key = true ∧ valuedS a = true ∧ -9223372036854775808 ≤ a.i ∧ a.i < 9223372036854775808 := by
  intro n x rest hv he
  have hk := keyed_size hv.1
  have hvl := valued_ok hv.2.1
  unfold encA at he ⊢
  have h1 := txt_back (L := L) 40 (by decide) n x.key _ ⟨hk.2.1, hk.2.2⟩ (by rw [he, List.append_assoc])
  have d1 := drop_next (L := L) (n := n) (a := txt x.key) (by rw [he, List.append_assoc])
  have h2 := num_back (L := L) _ x.k.toNat _ (by omega) (by rw [d1, List.append_assoc])
  have d2 := drop_next (a := venc x.k.toNat) (by rw [d1, List.append_assoc])
  have h3 := txt_back (L := L) 200 (by decide) _ x.t _ ⟨hvl.2.2.1, hvl.2.2.2⟩ (by rw [d2, List.append_assoc])
  have d3 := drop_next (a := txt x.t) (by rw [d2, List.append_assoc])
  have h4 := sig_back (L := L) _ x.i _ hv.2.2 d3
  simp only [atrP]
  rw [show (40 : Int) = ((40 : Nat) : Int) from rfl, show (200 : Int) = ((200 : Nat) : Int) from rfl]
  rw [show (txtP L (40 : Nat) (.ok n)).2 = .ok (n + (txt x.key).length) from congrArg Prod.snd h1, h2]
  simp only
  rw [show (txtP L (200 : Nat) (.ok (n + (txt x.key).length + (venc x.k.toNat).length))).2 = .ok (n + (txt x.key).length + (venc x.k.toNat).length + (txt x.t).length) from congrArg Prod.snd h3, h4]
  rw [show strOfNums (txtP L (40 : Nat) (.ok n)).1 = x.key from congrArg Prod.fst h1, show strOfNums (txtP L (200 : Nat) (.ok (n + (txt x.key).length + (venc x.k.toNat).length))).1 = x.t from congrArg Prod.fst h3]
  have e5 : ((smallN x.k.toNat : Nat) : Int) = x.k := by unfold smallN; rw [if_neg (by omega)]; omega
  rw [e5]
  simp only [List.length_append, Nat.add_assoc]
theorem evt_back : Back L (evtP L) encE fun e => 0 ≤ e.at_ ∧ e.at_ ≤ 4611686018427387904 ∧ plainS e.n 100 32 = true := by
  intro n x rest hv he
  have hp := plain_size hv.2.2
  unfold encE at he ⊢
  have h1 := num_back (L := L) n x.at_.toNat _ (by omega) (by rw [he, List.append_assoc])
  have d1 := drop_next (L := L) (n := n) (a := venc x.at_.toNat) (by rw [he, List.append_assoc])
  have h2 := txt_back (L := L) 100 (by decide) _ x.n _ ⟨hp.2.1, hp.2.2⟩ d1
  simp only [evtP]
  rw [h1]
  simp only
  rw [show (100 : Int) = ((100 : Nat) : Int) from rfl]
  rw [show (txtP L (100 : Nat) (.ok (n + (venc x.at_.toNat).length))).2 = .ok (n + (venc x.at_.toNat).length + (txt x.n).length) from congrArg Prod.snd h2, show strOfNums (txtP L (100 : Nat) (.ok (n + (venc x.at_.toNat).length))).1 = x.n from congrArg Prod.fst h2]
  have e5 : ((momentN x.at_.toNat : Nat) : Int) = x.at_ := by unfold momentN; rw [if_neg (by omega)]; omega
  rw [e5]
  simp only [List.length_append, Nat.add_assoc]
end Go.Proofs.YtlcbgklealipoaaGreatDoor
end

section
/- What is encoded is decoded; one form; how long it is (plain). -/
namespace Go.Proofs.YtlcbgklealipoaaGreatDoor
open Go.RowKit
set_option linter.unusedVariables false
set_option linter.unusedSimpArgs false

/-- The numbers of a span fit their kinds. -/
structure Fits (s : Spn) : Prop where
  hi : s.hi < 18446744073709551616
  lo : s.lo < 18446744073709551616
  id : s.id < 18446744073709551616
  par : s.par < 18446744073709551616
  links : ∀ x ∈ s.links, x < 18446744073709551616
  kind : -9223372036854775808 ≤ s.kind ∧ s.kind < 9223372036854775808
  st : -9223372036854775808 ≤ s.st ∧ s.st < 9223372036854775808
  start : -9223372036854775808 ≤ s.start ∧ s.start < 9223372036854775808
  fin : -9223372036854775808 ≤ s.fin ∧ s.fin < 9223372036854775808
  ats : ∀ a ∈ s.ats, (-9223372036854775808 ≤ a.k ∧ a.k < 9223372036854775808) ∧ -9223372036854775808 ≤ a.i ∧ a.i < 9223372036854775808
  evs : ∀ e ∈ s.evs, -9223372036854775808 ≤ e.at_ ∧ e.at_ < 9223372036854775808
variable {L : List Int}
theorem spnP_one (hb : Bytes L) {m : Nat} (h : (spnP L).2 = .ok m) (hc : Fine (spnP L).1) : m ≤ L.length ∧ L.take m = encS (spnP L).1 := by
  obtain ⟨S, hS⟩ : ∃ S, S = (spnP L).1 := ⟨_, rfl⟩
  rw [← hS] at hc ⊢
  simp only [spnP] at h hS
  obtain ⟨n15, e15⟩ := (iter_stays (evt_stays L) _).ok h
  obtain ⟨n14, e14⟩ := (many_stays L 32 47).ok e15
  obtain ⟨n13, e13⟩ := (iter_stays (atr_stays L) _).ok e14
  obtain ⟨n12, e12⟩ := (many_stays L 32 46).ok e13
  obtain ⟨n11, e11⟩ := (num_stays L).ok e12
  obtain ⟨n10, e10⟩ := (num_stays L).ok e11
  obtain ⟨n9, e9⟩ := (num_stays L).ok e10
  obtain ⟨n8, e8⟩ := (num_stays L).ok e9
  obtain ⟨n7, e7⟩ := (txt_stays L 100).ok e8
  obtain ⟨n6, e6⟩ := (txt_stays L 60).ok e7
  obtain ⟨n5, e5⟩ := (iter_stays (eight_stays L) _).ok e6
  obtain ⟨n4, e4⟩ := (many_stays L 16 45).ok e5
  obtain ⟨n3, e3⟩ := (eight_stays L).ok e4
  obtain ⟨n2, e2⟩ := (eight_stays L).ok e3
  obtain ⟨n1, e1⟩ := (eight_stays L).ok e2
  have g1 := (eight_one hb).go (st := .ok 0) (Nat.zero_le _) rfl e1 trivial
  have g2 := (eight_one hb).go g1.2.1 e1 e2 trivial
  have g3 := (eight_one hb).go g2.2.1 e2 e3 trivial
  have g4 := (eight_one hb).go g3.2.1 e3 e4 trivial
  have g5 := (many_one hb 16 45).go g4.2.1 e4 e5 trivial
  have g6 := (iter_one (eight_one hb) (eight_stays L) _).go g5.2.1 e5 e6 (fun _ _ => trivial)
  have g7 := (txt_one hb 60).go g6.2.1 e6 e7 trivial
  have g8 := (txt_one hb 100).go g7.2.1 e7 e8 trivial
  have g9 := (num_one hb).go g8.2.1 e8 e9 trivial
  have g10 := (num_one hb).go g9.2.1 e9 e10 trivial
  have g11 := (num_one hb).go g10.2.1 e10 e11 trivial
  have g12 := (num_one hb).go g11.2.1 e11 e12 trivial
  have g13 := (many_one hb 32 46).go g12.2.1 e12 e13 trivial
  have g14 := (iter_one (atr_one hb) (atr_stays L) _).go g13.2.1 e13 e14 (fun a ha => by
    have := (hc.ats.2 a (by rw [hS]; exact ha)).2
    have := valued_ok this
    omega)
  have g15 := (many_one hb 32 47).go g14.2.1 e14 e15 trivial
  have g16 := (iter_one (evt_one hb) (evt_stays L) _).go g15.2.1 e15 h (fun a ha => (hc.evs.2 a (by rw [hS]; exact ha)).2.1)
  refine ⟨g16.2.1, ?_⟩
  have f1 := iter_len (eightP L) (manyP L 16 45 (eightP L (eightP L (eightP L (eightP L (.ok 0)).2).2).2).2).2 (manyP L 16 45 (eightP L (eightP L (eightP L (eightP L (.ok 0)).2).2).2).2).1
  have lens : L.take m = seg L 0 m := by simp [seg]
  rw [lens, seg_trans L g1.1 (by omega), seg_trans L g2.1 (by omega : n2 ≤ m), seg_trans L g3.1 (by omega : n3 ≤ m), seg_trans L g4.1 (by omega : n4 ≤ m), seg_trans L g5.1 (by omega : n5 ≤ m), seg_trans L g6.1 (by omega : n6 ≤ m),
    seg_trans L g7.1 (by omega : n7 ≤ m), seg_trans L g8.1 (by omega : n8 ≤ m), seg_trans L g9.1 (by omega : n9 ≤ m), seg_trans L g10.1 (by omega : n10 ≤ m), seg_trans L g11.1 (by omega : n11 ≤ m), seg_trans L g12.1 (by omega : n12 ≤ m), seg_trans L g13.1 (by omega : n13 ≤ m), seg_trans L g14.1 (by omega : n14 ≤ m), seg_trans L g15.1 (by omega : n15 ≤ m)]
  rw [g1.2.2, g2.2.2, g3.2.2, g4.2.2, g5.2.2, g6.2.2, g7.2.2, g8.2.2, g9.2.2, g10.2.2, g11.2.2, g12.2.2, g13.2.2, g14.2.2, g15.2.2, g16.2.2]
  have k1 := hc.kind
  have k2 := hc.st
  have k3 := hc.start
  rw [hS] at k1 k2 k3
  simp only at k1 k2 k3
  have small_id : ∀ v : Nat, ((smallN v : Nat) : Int) ≤ 4 → smallN v = v := fun v hv => by unfold smallN at hv ⊢; split at hv <;> split <;> omega
  have mom_id : ∀ v : Nat, ((momentN v : Nat) : Int) ≤ 4611686018427387904 → momentN v = v := fun v hv => by unfold momentN at hv ⊢; split at hv <;> split <;> omega
  have q1 := small_id _ k1.2
  have q2 := small_id _ (Int.le_trans k2.2 (by omega))
  have q3 := mom_id _ (Int.le_trans k3.2.1 k3.2.2)
  have q4 := mom_id _ k3.2.2
  rw [hS]
  simp only [encS, txtB, iter_len, Int.toNat_natCast]
  rw [q1, q2, q3, q4]
theorem txtB_snd {most : Int} {st : DSt} {r : ByteArray × DSt} (h : txtB L most st = r) : (txtP L most st).2 = r.2 := congrArg Prod.snd h
theorem txtB_fst {most : Int} {st : DSt} {r : ByteArray × DSt} (h : txtB L most st = r) : strOfNums (txtP L most st).1 = r.1 := congrArg Prod.fst h
theorem spnP_back {s : Spn} (hf : Fine s) (hr : Fits s) (hL : L = encS s) : spnP L = (s, .ok L.length) := by
  have hsv := plain_size hf.svc
  have hop := plain_size hf.op
  have d0 : L.drop 0 = encS s ++ [] := by rw [List.drop_zero, hL, List.append_nil]
  unfold encS at d0
  simp only [List.append_assoc] at d0
  have h1 := eight_back (L := L) 0 s.hi _ hr.hi d0
  have d1 := drop_next d0
  have h2 := eight_back (L := L) _ s.lo _ hr.lo d1
  have d2 := drop_next d1
  have h3 := eight_back (L := L) _ s.id _ hr.id d2
  have d3 := drop_next d2
  have h4 := eight_back (L := L) _ s.par _ hr.par d3
  have d4 := drop_next d3
  have h5 := many_back (L := L) 16 45 (by decide) _ s.links.length _ hf.links d4
  have d5 := drop_next d4
  have h6 := iter_back (eight_back (L := L)) s.links _ _ hr.links d5
  have d6 := drop_next d5
  have h7 := txt_back (L := L) 60 (by decide) _ s.svc _ ⟨hsv.2.1, hsv.2.2⟩ d6
  have d7 := drop_next d6
  have h8 := txt_back (L := L) 100 (by decide) _ s.op _ ⟨hop.2.1, hop.2.2⟩ d7
  have d8 := drop_next d7
  have h9 := num_back (L := L) _ s.kind.toNat _ (by have := hf.kind; omega) d8
  have d9 := drop_next d8
  have h10 := num_back (L := L) _ s.st.toNat _ (by have := hf.st; omega) d9
  have d10 := drop_next d9
  have h11 := num_back (L := L) _ s.start.toNat _ (by have := hf.start; omega) d10
  have d11 := drop_next d10
  have h12 := num_back (L := L) _ s.fin.toNat _ (by have := hf.start; omega) d11
  have d12 := drop_next d11
  have h13 := many_back (L := L) 32 46 (by decide) _ s.ats.length _ hf.ats.1 d12
  have d13 := drop_next d12
  have h14 := iter_back (atr_back (L := L)) s.ats _ _ (fun a ha => ⟨(hf.ats.2 a ha).1, (hf.ats.2 a ha).2, (hr.ats a ha).2⟩) d13
  have d14 := drop_next d13
  have h15 := many_back (L := L) 32 47 (by decide) _ s.evs.length _ hf.evs.1 d14
  have d15 := drop_next d14
  have h16 := iter_back (evt_back (L := L)) s.evs _ _ hf.evs.2 d15
  have d16 := drop_next d15
  obtain ⟨N, hN⟩ : ∃ N, N = 0 + (raw8 s.hi).length + (raw8 s.lo).length + (raw8 s.id).length + (raw8 s.par).length + (venc s.links.length).length + (s.links.flatMap raw8).length + (txt s.svc).length + (txt s.op).length + (venc s.kind.toNat).length + (venc s.st.toNat).length + (venc s.start.toNat).length + (venc s.fin.toNat).length + (venc s.ats.length).length + (s.ats.flatMap encA).length + (venc s.evs.length).length + (s.evs.flatMap encE).length := ⟨_, rfl⟩
  have hNL : N = L.length := by
    rw [hN, hL]
    simp only [encS, List.length_append]
    omega
  simp only [spnP]
  rw [h1]; simp only
  rw [h2]; simp only
  rw [h3]; simp only
  rw [h4]; simp only
  rw [h5]; simp only
  rw [h6]; simp only
  rw [show (60 : Int) = ((60 : Nat) : Int) from rfl, show (100 : Int) = ((100 : Nat) : Int) from rfl]
  rw [txtB_snd h7, txtB_fst h7]; simp only
  rw [txtB_snd h8, txtB_fst h8]; simp only
  rw [h9]; simp only
  rw [h10]; simp only
  rw [h11]; simp only
  rw [h12]; simp only
  rw [h13]; simp only
  rw [h14]; simp only
  rw [h15]; simp only
  rw [h16]; simp only
  rw [← hN, hNL]
  have k1 := hf.kind
  have k2 := hf.st
  have k3 := hf.start
  have e1 : ((smallN s.kind.toNat : Nat) : Int) = s.kind := by unfold smallN; rw [if_neg (by omega)]; omega
  have e2 : ((smallN s.st.toNat : Nat) : Int) = s.st := by unfold smallN; rw [if_neg (by omega)]; omega
  have e3 : ((momentN s.start.toNat : Nat) : Int) = s.start := by unfold momentN; rw [if_neg (by omega)]; omega
  have e4 : ((momentN s.fin.toNat : Nat) : Int) = s.fin := by unfold momentN; rw [if_neg (by omega)]; omega
  rw [e1, e2, e3, e4]
/-- What is encoded is decoded. -/
theorem dec_back {s : Spn} (h : checkS s = 0) (hr : Fits s) : decS (encS s) = .ok s := by
  unfold decS
  rw [spnP_back (fine_of h) hr rfl]
  simp only
  rw [if_neg (by omega), if_pos h]
/-- Of any bytes: what is decoded may be, and has just these bytes. -/
theorem dec_one (hb : Bytes L) {s : Spn} (h : decS L = .ok s) : checkS s = 0 ∧ encS s = L := by
  unfold decS at h
  split at h
  · cases h
  · rename_i n hn
    split at h
    · cases h
    · split at h
      · rename_i h0
        injection h with h
        subst h
        refine ⟨h0, ?_⟩
        obtain ⟨g1, g2⟩ := spnP_one hb hn (fine_of h0)
        rw [← g2, List.take_of_length_le (by omega)]
      · cases h
end Go.Proofs.YtlcbgklealipoaaGreatDoor
end

