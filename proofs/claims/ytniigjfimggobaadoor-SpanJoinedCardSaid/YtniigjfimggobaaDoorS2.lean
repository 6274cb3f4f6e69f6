/- Spans: which may be, and which of two is the greater one (plain). -/
import Derived.Test.YtniigjfimggobaaDoorS1
namespace Go.Proofs.YtniigjfimggobaaDoor
set_option linter.unusedVariables false
set_option linter.unusedSimpArgs false

structure Atr where
  key : ByteArray
  k : Int
  t : ByteArray
  i : Int
structure Evt where
  at_ : Int
  n : ByteArray
structure Spn where
  hi : Nat
  lo : Nat
  id : Nat
  par : Nat
  links : List Nat
  svc : ByteArray
  op : ByteArray
  kind : Int
  st : Int
  start : Int
  fin : Int
  ats : List Atr
  evs : List Evt
theorem Atr.ext' {a b : Atr} (h1 : a.key = b.key) (h2 : a.k = b.k) (h3 : a.t = b.t) (h4 : a.i = b.i) : a = b := by cases a; cases b; simp_all
theorem Evt.ext' {a b : Evt} (h1 : a.at_ = b.at_) (h2 : a.n = b.n) : a = b := by cases a; cases b; simp_all
theorem Spn.ext' {a b : Spn} (h1 : a.hi = b.hi) (h2 : a.lo = b.lo) (h3 : a.id = b.id) (h4 : a.par = b.par) (h5 : a.links = b.links) (h6 : a.svc = b.svc) (h7 : a.op = b.op) (h8 : a.kind = b.kind) (h9 : a.st = b.st) (h10 : a.start = b.start) (h11 : a.fin = b.fin) (h12 : a.ats = b.ats) (h13 : a.evs = b.evs) : a = b := by cases a; cases b; simp_all

def natC (a b : Nat) : Int := Lib.compareInt a b
theorem natPre : Pre natC := intPre.map fun n : Nat => (n : Int)
theorem nat_zero (a b : Nat) : natC a b = 0 ↔ a = b := by unfold natC; rw [int_zero]; omega
/-! ### the orders -/
def atrC (a b : Atr) : Int := orFirst [strC a.key b.key, Lib.compareInt a.k b.k, strC a.t b.t, Lib.compareInt a.i b.i]
def evtC (a b : Evt) : Int := orFirst [Lib.compareInt a.at_ b.at_, strC a.n b.n]
theorem atrPre : Pre atrC := by
  have : atrC = orAll [fun a b => strC a.key b.key, fun a b => Lib.compareInt a.k b.k, fun a b => strC a.t b.t, fun a b => Lib.compareInt a.i b.i] := rfl
  rw [this]
  refine Pre.all _ fun c hc => ?_
  simp only [List.mem_cons, List.not_mem_nil, or_false] at hc
  rcases hc with rfl | rfl | rfl | rfl
  · exact strPre.map Atr.key
  · exact intPre.map Atr.k
  · exact strPre.map Atr.t
  · exact intPre.map Atr.i
theorem evtPre : Pre evtC := by
  have : evtC = orAll [fun a b => Lib.compareInt a.at_ b.at_, fun a b => strC a.n b.n] := rfl
  rw [this]
  refine Pre.all _ fun c hc => ?_
  simp only [List.mem_cons, List.not_mem_nil, or_false] at hc
  rcases hc with rfl | rfl
  · exact intPre.map Evt.at_
  · exact strPre.map Evt.n
theorem atr_zero (a b : Atr) : atrC a b = 0 ↔ a = b := by
  unfold atrC
  rw [orFirst_zero]
  simp only [List.mem_cons, List.not_mem_nil, or_false, forall_eq_or_imp, forall_eq, str_zero, int_zero]
  constructor
  · rintro ⟨h1, h2, h3, h4⟩; exact Atr.ext' h1 h2 h3 h4
  · rintro rfl; exact ⟨rfl, rfl, rfl, rfl⟩
theorem evt_zero (a b : Evt) : evtC a b = 0 ↔ a = b := by
  unfold evtC
  rw [orFirst_zero]
  simp only [List.mem_cons, List.not_mem_nil, or_false, forall_eq_or_imp, forall_eq, str_zero, int_zero]
  constructor
  · rintro ⟨h1, h2⟩; exact Evt.ext' h1 h2
  · rintro rfl; exact ⟨rfl, rfl⟩
/-- The order of names. -/
def nameC (a b : Spn) : Int := orFirst [natC a.hi b.hi, natC a.lo b.lo, natC a.id b.id]
/-- The order of what stands behind the name. -/
def restC (a b : Spn) : Int := orFirst [Lib.compareInt a.fin b.fin, Lib.compareInt b.start a.start, Lib.compareInt a.st b.st, natC a.par b.par, strC a.svc b.svc, strC a.op b.op, Lib.compareInt a.kind b.kind, listC natC a.links b.links, listC atrC a.ats b.ats, listC evtC a.evs b.evs]
def spnC (a b : Spn) : Int := if nameC a b = 0 then restC a b else nameC a b
theorem spnPre : Pre spnC := by
  have e1 : nameC = orAll [fun a b => natC a.hi b.hi, fun a b => natC a.lo b.lo, fun a b => natC a.id b.id] := rfl
  have e2 : restC = orAll [fun a b => Lib.compareInt a.fin b.fin, fun a b => Lib.compareInt b.start a.start, fun a b => Lib.compareInt a.st b.st, fun a b => natC a.par b.par, fun a b => strC a.svc b.svc, fun a b => strC a.op b.op, fun a b => Lib.compareInt a.kind b.kind, fun a b => listC natC a.links b.links, fun a b => listC atrC a.ats b.ats, fun a b => listC evtC a.evs b.evs] := rfl
  refine Pre.lex (c := nameC) (d := restC) ?_ ?_
  · rw [e1]
    refine Pre.all _ fun c hc => ?_
    simp only [List.mem_cons, List.not_mem_nil, or_false] at hc
    rcases hc with rfl | rfl | rfl
    · exact natPre.map Spn.hi
    · exact natPre.map Spn.lo
    · exact natPre.map Spn.id
  · rw [e2]
    refine Pre.all _ fun c hc => ?_
    simp only [List.mem_cons, List.not_mem_nil, or_false] at hc
    rcases hc with rfl | rfl | rfl | rfl | rfl | rfl | rfl | rfl | rfl | rfl
    · exact intPre.map Spn.fin
    · exact (intPre.map Spn.start).flip
    · exact intPre.map Spn.st
    · exact natPre.map Spn.par
    · exact strPre.map Spn.svc
    · exact strPre.map Spn.op
    · exact intPre.map Spn.kind
    · exact natPre.list.map Spn.links
    · exact atrPre.list.map Spn.ats
    · exact evtPre.list.map Spn.evs
theorem spn_zero (a b : Spn) : spnC a b = 0 ↔ a = b := by
  have h1 : nameC a b = 0 ↔ a.hi = b.hi ∧ a.lo = b.lo ∧ a.id = b.id := by
    unfold nameC
    rw [orFirst_zero]
    simp only [List.mem_cons, List.not_mem_nil, or_false, forall_eq_or_imp, forall_eq, nat_zero]
  have h2 : restC a b = 0 ↔ a.fin = b.fin ∧ b.start = a.start ∧ a.st = b.st ∧ a.par = b.par ∧ a.svc = b.svc ∧ a.op = b.op ∧ a.kind = b.kind ∧ a.links = b.links ∧ a.ats = b.ats ∧ a.evs = b.evs := by
    unfold restC
    rw [orFirst_zero]
    simp only [List.mem_cons, List.not_mem_nil, or_false, forall_eq_or_imp, forall_eq, nat_zero, int_zero, str_zero, listC_zero nat_zero, listC_zero atr_zero, listC_zero evt_zero]
  unfold spnC
  by_cases e : nameC a b = 0
  · rw [if_pos e, h2]
    have ⟨e1, e2, e3⟩ := h1.1 e
    constructor
    · rintro ⟨p1, p2, p3, p4, p5, p6, p7, p8, p9, p10⟩
      exact Spn.ext' e1 e2 e3 p4 p8 p5 p6 p7 p3 p2.symm p1 p9 p10
    · rintro rfl; simp
  · rw [if_neg e]
    constructor
    · intro h; exact absurd h e
    · rintro rfl; exact absurd (h1.2 ⟨rfl, rfl, rfl⟩) e
end Go.Proofs.YtniigjfimggobaaDoor
