/- The disk, plain: what a call answers, and what is there behind it. -/
import Derived.Lib.Small
namespace Go.Proofs.Ytgohjgeplageeaa
set_option linter.unusedVariables false
set_option linter.unusedSimpArgs false

/-- A step of a file's bytes. -/
inductive Stp where
  | app (l : List Int)
  | cut (n : Nat)
def Stp.units : Stp → Nat
  | .app l => l.length
  | .cut _ => 1
/-- The first units of it, done. -/
def Stp.part (b : List Int) (u : Nat) : Stp → List Int
  | .app l => b ++ l.take u
  | .cut n => if 0 < u then b.take n else b
structure Fil where
  las : List Int
  pen : List Stp
  see : List Int
def keptL : List Stp → Nat → List Int → List Int
  | [], _, b => b
  | s :: r, u, b => keptL r (u - s.units) (s.part b (min u s.units))
def allL : List Stp → Nat
  | [] => 0
  | s :: r => s.units + allL r
def fullL : List Stp → List Int → List Int
  | [], b => b
  | s :: r, b => fullL r (s.part b s.units)
/-- Each cut leaves no more than there is. -/
def okL : List Stp → List Int → Prop
  | [], _ => True
  | s :: r, b => (∀ n, s = .cut n → n ≤ b.length) ∧ okL r (s.part b s.units)
def Fil.kept (F : Fil) (u : Nat) : List Int := keptL F.pen u F.las
def Fil.all (F : Fil) : Nat := allL F.pen
def Fil.add (F : Fil) (s : Stp) : Fil := ⟨F.las, F.pen ++ [s], s.part F.see s.units⟩
def Fil.settle (b : List Int) : Fil := ⟨b, [], b⟩
/-- The names. -/
abbrev Nm := ByteArray → Option Nat
def noStr : ByteArray := ⟨#[]⟩
instance : DecidableEq ByteArray := fun a b => if h : a.data = b.data then isTrue (by cases a; cases b; cases h; rfl) else isFalse fun e => h (e ▸ rfl)
def Nm.put (f : Nm) (s : ByteArray) (i : Nat) : Nm := fun t => if t = s then some i else f t
def Nm.del (f : Nm) (s : ByteArray) : Nm := fun t => if t = s then none else f t
structure Mv where
  fr : ByteArray
  to : ByteArray
  f : Option Nat
def Mv.done (m : Mv) (n : Nm) : Nm :=
  if m.fr = noStr then
    match m.f with
    | some i => n.put m.to i
    | none => n
  else if m.to = noStr then n.del m.fr
  else match n m.fr with
    | some i => (n.put m.to i).del m.fr
    | none => n
/-- A move that may be. -/
def Mv.ok (m : Mv) (n : Nm) : Prop := (m.fr = noStr → m.f.isSome = true) ∧ (m.fr ≠ noStr → m.to ≠ noStr → (n m.fr).isSome = true)
def playM : List Mv → Nm → Nm
  | [], n => n
  | m :: r, n => playM r (m.done n)
def okM : List Mv → Nm → Prop
  | [], _ => True
  | m :: r, n => m.ok n ∧ okM r (m.done n)
structure Dsk where
  fs : List Fil
  las : Nm
  mvs : List Mv
  see : Nm
  made : List Bool
  off : Bool
  arm : Int
  how : Int
  uni : Int
def Dsk.new : Dsk := ⟨[], fun _ => none, [], fun _ => none, [], false, 0, 0, 0⟩
/-- The letters of a file's name. -/
def nameSet : List UInt8 := [97, 98, 99, 100, 101, 102, 103, 104, 105, 106, 107, 108, 109, 110, 111, 112, 113, 114, 115, 116, 117, 118, 119, 120, 121, 122, 48, 49, 50, 51, 52, 53, 54, 55, 56, 57, 45, 46]
def nameB (c : UInt8) : Bool := nameSet.contains c
def named (s : ByteArray) : Bool := s.data.toList.all nameB && decide (0 < s.size) && decide (s.size ≤ 40)
/-- What find answers. -/
def Dsk.err (S : Dsk) (s : ByteArray) : Int := if S.off = true then 75 else if named s = true then (if (S.see s).isSome = true then 0 else 72) else 71
/-- A change: how many units of it are done, what is answered, the disk behind it. -/
def Dsk.chgN (S : Dsk) : Int := if S.arm = 0 then -1 else if 0 < S.arm - 1 then -1 else S.uni
def Dsk.chgE (S : Dsk) : Int := if S.arm = 0 then 0 else if 0 < S.arm - 1 then 0 else if S.how = 0 then 75 else 76
def Dsk.chgD (S : Dsk) : Dsk := if S.arm = 0 then S else if 0 < S.arm - 1 then { S with arm := S.arm - 1 } else if S.how = 0 then { S with arm := S.arm - 1, off := true } else { S with arm := S.arm - 1 }
/-- A file turns. -/
def Dsk.turn (S : Dsk) (i : Nat) (g : Fil → Fil) : Dsk := { S with fs := S.fs.modify i g }
/-- Which files some beginning of the moves leaves a name. -/
def Dsk.alive (S : Dsk) (i : Nat) : Prop := ∃ j, j ≤ S.mvs.length ∧ ∃ s, playM (S.mvs.take j) S.las s = some i
open Classical in
noncomputable def sweepL (S : Dsk) (l : List Bool) : List Bool := l.mapIdx fun i b => b && decide (S.alive i)
noncomputable def Dsk.sweep (S : Dsk) : Dsk := { S with made := sweepL S S.made }
end Go.Proofs.Ytgohjgeplageeaa
