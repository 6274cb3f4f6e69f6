/- A span's bytes, and what is read of bytes (plain). -/
import Derived.Test.YtniigjfimggobaaDoorS3
import Derived.Test.YtniigjfimggobaaDoorRx
namespace Go.Proofs.YtniigjfimggobaaDoor
open Go.RowKit
set_option linter.unusedVariables false
set_option linter.unusedSimpArgs false

/-- A number in so many bytes, the highest first. -/
def digs : Nat → Nat → List Int
  | 0, _ => []
  | n + 1, v => digs n (v / 256) ++ [((v % 256 : Nat) : Int)]
def raw8 (v : Nat) : List Int := digs 8 v
def of8 (l : List Int) : Nat := l.foldl (fun v c => v * 256 + c.toNat) 0
theorem of8_snoc (l : List Int) (c : Int) : of8 (l ++ [c]) = of8 l * 256 + c.toNat := by simp [of8, List.foldl_append]
theorem digs_len : ∀ n v, (digs n v).length = n
  | 0, _ => rfl
  | n + 1, v => by rw [digs, List.length_append, digs_len n]; rfl
theorem raw8_len (v : Nat) : (raw8 v).length = 8 := digs_len 8 v
theorem digs_bytes : ∀ n v, Bytes (digs n v)
  | 0, _ => fun x hx => by cases hx
  | n + 1, v => fun x hx => by
    rw [digs] at hx
    rcases List.mem_append.1 hx with h | h
    · exact digs_bytes n _ x h
    · simp only [List.mem_singleton] at h
      omega
theorem raw8_bytes (v : Nat) : Bytes (raw8 v) := digs_bytes 8 v
theorem raw8_eq (v : Nat) : raw8 v = [((v / 72057594037927936 % 256 : Nat) : Int), ((v / 281474976710656 % 256 : Nat) : Int), ((v / 1099511627776 % 256 : Nat) : Int), ((v / 4294967296 % 256 : Nat) : Int), ((v / 16777216 % 256 : Nat) : Int), ((v / 65536 % 256 : Nat) : Int), ((v / 256 % 256 : Nat) : Int), ((v % 256 : Nat) : Int)] := by
  simp only [raw8, digs, Nat.div_div_eq_div_mul, List.nil_append, List.cons_append]
theorem of8_digs : ∀ n v, v < 256 ^ n → of8 (digs n v) = v
  | 0, v, h => by simp at h; rw [h]; rfl
  | n + 1, v, h => by
    rw [digs, of8_snoc, of8_digs n (v / 256) (by rw [Nat.pow_succ] at h; exact Nat.div_lt_of_lt_mul (by rw [Nat.mul_comm]; exact h))]
    omega
theorem of8_raw8 (v : Nat) (h : v < 18446744073709551616) : of8 (raw8 v) = v := of8_digs 8 v h
theorem digs_of8 : ∀ n (l : List Int), Bytes l → l.length = n → digs n (of8 l) = l ∧ of8 l < 256 ^ n
  | 0, l, _, h => by
    obtain rfl : l = [] := List.eq_nil_of_length_eq_zero h
    exact ⟨rfl, by decide⟩
  | n + 1, l, hb, h => by
    obtain ⟨i, c, rfl⟩ : ∃ i c, l = i ++ [c] := by
      have hne : l ≠ [] := by rintro rfl; simp at h
      exact ⟨l.dropLast, l.getLast hne, (List.dropLast_concat_getLast hne).symm⟩
    have hl : i.length = n := by simpa using h
    have hc := hb c (by simp)
    obtain ⟨h1, h2⟩ := digs_of8 n i (fun x hx => hb x (by simp [hx])) hl
    rw [of8_snoc, digs]
    obtain ⟨k, rfl⟩ : ∃ k : Nat, c = k := ⟨c.toNat, by omega⟩
    rw [show (of8 i * 256 + (k : Int).toNat) / 256 = of8 i by omega, show (of8 i * 256 + (k : Int).toNat) % 256 = k by omega, h1]
    refine ⟨rfl, ?_⟩
    rw [Nat.pow_succ]
    omega
theorem raw8_of8 (l : List Int) (hb : Bytes l) (h : l.length = 8) : raw8 (of8 l) = l ∧ of8 l < 18446744073709551616 := digs_of8 8 l hb h
def txt (s : ByteArray) : List Int := venc s.size ++ octs s
def encA (a : Atr) : List Int := txt a.key ++ (venc a.k.toNat ++ (txt a.t ++ venc (zig a.i).toNat))
def encE (e : Evt) : List Int := venc e.at_.toNat ++ txt e.n
/-- A span's bytes. -/
def encS (s : Spn) : List Int :=
  raw8 s.hi ++ (raw8 s.lo ++ (raw8 s.id ++ (raw8 s.par ++ (venc s.links.length ++ (s.links.flatMap raw8 ++ (txt s.svc ++ (txt s.op ++ (venc s.kind.toNat ++ (venc s.st.toNat ++ (venc s.start.toNat ++ (venc s.fin.toNat ++
    (venc s.ats.length ++ (s.ats.flatMap encA ++ (venc s.evs.length ++ s.evs.flatMap encE))))))))))))))

/-- Where a source stands: at a place, or with what was wrong first. -/
inductive DSt where
  | ok (n : Nat)
  | bad (a no : Int)
def eightP (L : List Int) : DSt → Nat × DSt
  | .ok n => match rawR L n 8 with | .ok q m => (of8 q, .ok m) | .err a no => (0, .bad a no)
  | .bad a no => (0, .bad a no)
def numP (L : List Int) : DSt → Nat × DSt
  | .ok n => match numR (L.drop n) 0 0 with | .ok x k => (x, .ok (n + k)) | .form => (0, .bad n 12) | .fin => (0, .bad L.length 11)
  | .bad a no => (0, .bad a no)
def sigP (L : List Int) : DSt → Int × DSt
  | .ok n => match numR (L.drop n) 0 0 with | .ok x k => (zag x, .ok (n + k)) | .form => (0, .bad n 12) | .fin => (0, .bad L.length 11)
  | .bad a no => (0, .bad a no)
def txtP (L : List Int) (most : Int) : DSt → List Int × DSt
  | .ok n => match textR L n most with | .ok q m => (q, .ok m) | .err a no => ([], .bad a no)
  | .bad a no => ([], .bad a no)
def manyP (L : List Int) (most : Nat) (e : Int) : DSt → Nat × DSt
  | .ok n => match numP L (.ok n) with | (x, .ok m) => if most < x then (0, .bad n e) else (x, .ok m) | (_, .bad a no) => (0, .bad a no)
  | .bad a no => (0, .bad a no)
def smallN (v : Nat) : Nat := if 1000 < v then 1000 else v
def momentN (v : Nat) : Nat := if 4611686018427387904 < v then 4611686018427387905 else v
/-- So many, one behind the other. -/
def iterP {α : Type} (f : DSt → α × DSt) : Nat → DSt → List α × DSt
  | 0, st => ([], st)
  | j + 1, st => ((iterP f j st).1 ++ [(f (iterP f j st).2).1], (f (iterP f j st).2).2)
def atrP (L : List Int) (st : DSt) : Atr × DSt :=
  let k := txtP L 40 st
  let v := numP L k.2
  let t := txtP L 200 v.2
  let i := sigP L t.2
  (⟨strOfNums k.1, smallN v.1, strOfNums t.1, i.1⟩, i.2)
def evtP (L : List Int) (st : DSt) : Evt × DSt :=
  let a := numP L st
  let n := txtP L 100 a.2
  (⟨momentN a.1, strOfNums n.1⟩, n.2)
/-- A span, up to the end of what is read. -/
def spnP (L : List Int) : Spn × DSt :=
  let hi := eightP L (.ok 0)
  let lo := eightP L hi.2
  let id := eightP L lo.2
  let par := eightP L id.2
  let nl := manyP L 16 45 par.2
  let ls := iterP (eightP L) nl.1 nl.2
  let svc := txtP L 60 ls.2
  let op := txtP L 100 svc.2
  let kd := numP L op.2
  let st := numP L kd.2
  let sta := numP L st.2
  let fin := numP L sta.2
  let na := manyP L 32 46 fin.2
  let al := iterP (atrP L) na.1 na.2
  let ne := manyP L 32 47 al.2
  let el := iterP (evtP L) ne.1 ne.2
  (⟨hi.1, lo.1, id.1, par.1, ls.1, strOfNums svc.1, strOfNums op.1, smallN kd.1, smallN st.1, momentN sta.1, momentN fin.1, al.1, el.1⟩, el.2)
/-- What Decode answers. -/
inductive DRes where
  | ok (s : Spn)
  | err (a no : Int)
def decS (L : List Int) : DRes :=
  match (spnP L).2 with
  | .bad a no => .err a no
  | .ok n => if n < L.length then .err n 15 else if checkS (spnP L).1 = 0 then .ok (spnP L).1 else .err 0 (checkS (spnP L).1)

/-! ### there and back -/
theorem eightP_back {L : List Int} {n v : Nat} {rest : List Int} (h : v < 18446744073709551616) (he : L.drop n = raw8 v ++ rest) : eightP L (.ok n) = (v, .ok (n + (raw8 v).length)) := by
  have := rawR_written he
  rw [raw8_len] at this
  simp only [eightP]
  rw [show (8 : Int) = ((8 : Nat) : Int) from rfl, this]
  simp only [of8_raw8 v h, raw8_len]
theorem numP_back {L : List Int} {n v : Nat} {rest : List Int} (h : v < 18446744073709551616) (he : L.drop n = venc v ++ rest) : numP L (.ok n) = (v, .ok (n + (venc v).length)) := by
  simp only [numP]
  rw [he, numR_venc v rest h]
end Go.Proofs.YtniigjfimggobaaDoor
