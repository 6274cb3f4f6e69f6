/- Which spans may be (plain). -/
import Derived.Test.YtniigjfimggobaaDoorS2
import Derived.Lib.ValidU
namespace Go.Proofs.YtniigjfimggobaaDoor
set_option linter.unusedVariables false
set_option linter.unusedSimpArgs false

/-- A text of 1 to most bytes of UTF-8, none below fr, none 127. -/
def plainS (s : ByteArray) (most fr : Nat) : Bool := !decide (s.size = 0) && (decide (s.size ≤ most) && (Lib.validD s.data.toList && s.data.toList.all fun b => decide (fr ≤ b.toNat ∧ b.toNat ≠ 127)))
def keyB (b : UInt8) : Bool := decide ((97 ≤ b.toNat ∧ b.toNat ≤ 122) ∨ (48 ≤ b.toNat ∧ b.toNat ≤ 57) ∨ b.toNat = 46 ∨ b.toNat = 95 ∨ b.toNat = 45)
def keyedS (s : ByteArray) : Bool := !decide (s.size = 0) && (decide (s.size ≤ 40) && (decide (97 ≤ (s.data.toList.getD 0 0).toNat ∧ (s.data.toList.getD 0 0).toNat ≤ 122) && s.data.toList.all keyB))
def valuedS (a : Atr) : Bool :=
  if a.k = 0 then decide (a.i = 0) && (decide (a.t.size ≤ 200) && Lib.validD a.t.data.toList)
  else if a.k = 1 then decide (a.t.size = 0)
  else if a.k = 2 then decide (a.t.size = 0) && decide (a.i = 0 ∨ a.i = 1)
  else false
/-- Links that rise, none of them the span's own. -/
def risesS (id : Nat) : Nat → List Nat → Bool
  | _, [] => true
  | last, x :: r => decide (last < x ∧ x ≠ id) && risesS id x r
def linkedS (s : Spn) : Bool := risesS s.id 0 s.links && decide (s.links.length ≤ 16)
/-- Attributes, behind the one that stands ahead. -/
def carriesS : Option Atr → List Atr → Bool
  | _, [] => true
  | p, x :: r => (keyedS x.key && valuedS x && (match p with | none => true | some y => decide (strC y.key x.key < 0))) && carriesS (some x) r
def carriedS (l : List Atr) : Bool := carriesS none l && decide (l.length ≤ 32)
def tellsS : Option Evt → List Evt → Bool
  | _, [] => true
  | p, x :: r => (decide (0 ≤ x.at_ ∧ x.at_ ≤ 4611686018427387904) && plainS x.n 100 32 && (match p with | none => true | some y => decide (evtC y x < 0))) && tellsS (some x) r
def toldS (l : List Evt) : Bool := tellsS none l && decide (l.length ≤ 32)
/-- What is wrong with a span; 0: nothing. -/
def checkS (s : Spn) : Int :=
  if (s.hi = 0 ∧ s.lo = 0) ∨ s.id = 0 then 41
  else if s.start < 0 ∨ s.fin < s.start ∨ 4611686018427387904 < s.fin then 42
  else if plainS s.svc 60 33 = false ∨ plainS s.op 100 32 = false then 43
  else if s.kind < 0 ∨ 4 < s.kind ∨ s.st < 0 ∨ 2 < s.st then 44
  else if linkedS s = false then 45
  else if carriedS s.ats = false then 46
  else if toldS s.evs = false then 47
  else 0
/-- The greater one of two of one name. -/
def joinS (a b : Spn) : Spn := if spnC a b < 0 then b else a
theorem joinS_comm (a b : Spn) : joinS a b = joinS b a := by
  unfold joinS
  have t := spnPre.turn a b
  by_cases h : spnC a b < 0
  · rw [if_pos h, if_neg (by omega)]
  · rw [if_neg h]
    by_cases e : spnC a b = 0
    · rw [if_neg (by omega)]; exact (spn_zero a b).1 e
    · rw [if_pos (by omega)]
theorem joinS_self (a : Spn) : joinS a a = a := by unfold joinS; split <;> rfl
theorem joinS_ge (a b : Spn) : 0 ≤ spnC (joinS a b) a ∧ 0 ≤ spnC (joinS a b) b := by
  unfold joinS
  have t := spnPre.turn a b
  have s1 := spnPre.self a
  have s2 := spnPre.self b
  split <;> constructor <;> omega
theorem joinS_assoc (a b c : Spn) : joinS (joinS a b) c = joinS a (joinS b c) := by
  have tab := spnPre.turn a b
  have tbc := spnPre.turn b c
  have tac := spnPre.turn a c
  unfold joinS
  by_cases h1 : spnC a b < 0
  · rw [if_pos h1]
    by_cases h2 : spnC b c < 0
    · rw [if_pos h2]
      have := spnPre.trans a b c (by omega) (by omega)
      by_cases h3 : spnC a c < 0
      · rw [if_pos h3]
      · exfalso
        have e : spnC a c = 0 := by omega
        have al := spnPre.alike e b
        have := spnPre.turn c b
        omega
    · rw [if_neg h2, if_pos h1]
  · rw [if_neg h1]
    by_cases h2 : spnC b c < 0
    · rw [if_pos h2]
    · rw [if_neg h2, if_neg h1]
      by_cases h3 : spnC a c < 0
      · exfalso
        have t3 := spnPre.trans c b a (by omega) (by omega)
        omega
      · rw [if_neg h3]
end Go.Proofs.YtniigjfimggobaaDoor
