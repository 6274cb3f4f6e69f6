import Derived.Lib.Bytealg
import Derived.Lib.Small
import Derived.Lib.ValidU
section
/- Orders: what a comparison must be, and how comparisons are put together (plain). -/
namespace Go.Proofs.YtlcbgklealipoaaGreatDoor
set_option linter.unusedVariables false
set_option linter.unusedSimpArgs false

/-- A comparison that says -1, 0 or 1, turned round it says the other thing, and it goes on from one to the next. -/
structure Pre {α : Type} (c : α → α → Int) : Prop where
  lo : ∀ a b, -1 ≤ c a b
  hi : ∀ a b, c a b ≤ 1
  turn : ∀ a b, c b a = - c a b
  trans : ∀ a b d, c a b ≤ 0 → c b d ≤ 0 → c a d ≤ 0
theorem Pre.self {α : Type} {c : α → α → Int} (h : Pre c) (a : α) : c a a = 0 := by have := h.turn a a; omega
/-- Where two are alike they are alike to all. -/
theorem Pre.alike {α : Type} {c : α → α → Int} (h : Pre c) {a b : α} (e : c a b = 0) (d : α) : c a d = c b d := by
  have e2 : c b a = 0 := by rw [h.turn a b]; omega
  have p1 := h.trans b a d (by omega)
  have p2 := h.trans a b d (by omega)
  have p3 := h.trans d a b
  have p4 := h.trans d b a
  have t1 := h.turn a d
  have t2 := h.turn b d
  have := h.lo a d
  have := h.hi a d
  have := h.lo b d
  have := h.hi b d
  omega
theorem Pre.map {α β : Type} {c : β → β → Int} (h : Pre c) (f : α → β) : Pre fun a b => c (f a) (f b) :=
  ⟨fun _ _ => h.lo _ _, fun _ _ => h.hi _ _, fun _ _ => h.turn _ _, fun _ _ _ => h.trans _ _ _⟩
theorem Pre.flip {α : Type} {c : α → α → Int} (h : Pre c) : Pre fun a b => c b a :=
  ⟨fun _ _ => h.lo _ _, fun _ _ => h.hi _ _, fun _ _ => h.turn _ _, fun _ _ _ p q => h.trans _ _ _ q p⟩
/-- The first that is not 0. -/
def orFirst : List Int → Int
  | [] => 0
  | x :: r => if x = 0 then orFirst r else x
theorem Pre.zero {α : Type} : Pre fun (_ _ : α) => (0 : Int) := ⟨fun _ _ => by omega, fun _ _ => by omega, fun _ _ => rfl, fun _ _ _ _ _ => by omega⟩
theorem Pre.lex {α : Type} {c d : α → α → Int} (h : Pre c) (k : Pre d) : Pre fun a b => if c a b = 0 then d a b else c a b := by
  refine ⟨fun a b => ?_, fun a b => ?_, fun a b => ?_, fun a b x => ?_⟩
  · split
    · exact k.lo a b
    · exact h.lo a b
  · split
    · exact k.hi a b
    · exact h.hi a b
  · have t := h.turn a b
    by_cases e : c a b = 0
    · simp only [if_pos e, if_pos (show c b a = 0 by omega)]
      exact k.turn a b
    · simp only [if_neg e, if_neg (show ¬ c b a = 0 by omega)]
      exact t
  · intro p q
    by_cases e : c a b = 0
    · simp only [if_pos e] at p
      have al := h.alike e x
      by_cases e2 : c b x = 0
      · simp only [if_pos e2] at q
        simp only [if_pos (show c a x = 0 by omega)]
        exact k.trans a b x p q
      · simp only [if_neg e2] at q
        simp only [if_neg (show ¬ c a x = 0 by omega)]
        omega
    · simp only [if_neg e] at p
      by_cases e2 : c b x = 0
      · have al := h.alike (show c x b = 0 by rw [h.turn b x]; omega) a
        have t1 := h.turn a x
        have t2 := h.turn a b
        simp only [if_neg (show ¬ c a x = 0 by omega)]
        omega
      · simp only [if_neg e2] at q
        have tr := h.trans a b x p q
        have ne : ¬ c a x = 0 := fun e3 => by
          have al := h.alike e3 b
          have t2 := h.turn b x
          omega
        simp only [if_neg ne]
        exact tr
/-- Comparisons, one behind the other. -/
def orAll {α : Type} (cs : List (α → α → Int)) (a b : α) : Int := orFirst (cs.map fun c => c a b)
theorem Pre.all {α : Type} : ∀ cs : List (α → α → Int), (∀ c ∈ cs, Pre c) → Pre (orAll cs)
  | [], _ => Pre.zero
  | c :: r, h => by
    have e : orAll (c :: r) = fun a b => if c a b = 0 then orAll r a b else c a b := rfl
    rw [e]
    exact (h c (List.mem_cons_self ..)).lex (Pre.all r fun d hd => h d (List.mem_cons_of_mem _ hd))
theorem orFirst_zero : ∀ l : List Int, orFirst l = 0 ↔ ∀ x ∈ l, x = 0
  | [] => by simp [orFirst]
  | x :: r => by
    unfold orFirst
    by_cases h : x = 0
    · rw [if_pos h, orFirst_zero r]; simp [h]
    · rw [if_neg h]; simp [h]
/-- Lists, element by element; the shorter one first. -/
def listC {α : Type} (c : α → α → Int) : List α → List α → Int
  | [], [] => 0
  | [], _ :: _ => -1
  | _ :: _, [] => 1
  | a :: r, b :: s => if c a b = 0 then listC c r s else c a b
theorem Pre.list {α : Type} {c : α → α → Int} (h : Pre c) : Pre (listC c) := by
  refine ⟨fun a => ?_, fun a => ?_, fun a => ?_, fun a => ?_⟩
  · induction a with
    | nil => intro b; cases b <;> simp [listC]
    | cons x r ih =>
      intro b
      cases b with
      | nil => simp [listC]
      | cons y s =>
        simp only [listC]
        split
        · exact ih s
        · exact h.lo x y
  · induction a with
    | nil => intro b; cases b <;> simp [listC]
    | cons x r ih =>
      intro b
      cases b with
      | nil => simp [listC]
      | cons y s =>
        simp only [listC]
        split
        · exact ih s
        · exact h.hi x y
  · induction a with
    | nil => intro b; cases b <;> simp [listC]
    | cons x r ih =>
      intro b
      cases b with
      | nil => simp [listC]
      | cons y s =>
        simp only [listC]
        have t := h.turn x y
        by_cases e : c x y = 0
        · rw [if_pos e, if_pos (by omega)]; exact ih s
        · rw [if_neg e, if_neg (by omega)]; exact t
  · induction a with
    | nil => intro b d; cases b <;> cases d <;> simp [listC]
    | cons x r ih =>
      intro b d
      cases b with
      | nil => cases d <;> simp [listC]
      | cons y s =>
        cases d with
        | nil => simp [listC]
        | cons z t =>
          simp only [listC]
          intro p q
          by_cases e : c x y = 0
          · rw [if_pos e] at p
            have al := h.alike e z
            by_cases e2 : c y z = 0
            · rw [if_pos e2] at q
              rw [if_pos (by omega)]
              exact ih s t p q
            · rw [if_neg e2] at q
              rw [if_neg (by omega)]
              omega
          · rw [if_neg e] at p
            by_cases e2 : c y z = 0
            · have al := h.alike (show c z y = 0 by rw [h.turn y z]; omega) x
              have t1 := h.turn x z
              have t2 := h.turn x y
              rw [if_neg (by omega)]
              omega
            · rw [if_neg e2] at q
              have tr := h.trans x y z p q
              have ne : ¬ c x z = 0 := fun e3 => by
                have al := h.alike e3 y
                have t2 := h.turn y z
                omega
              rw [if_neg ne]
              exact tr
theorem listC_zero {α : Type} {c : α → α → Int} (h : ∀ a b, c a b = 0 ↔ a = b) : ∀ l m, listC c l m = 0 ↔ l = m
  | [], [] => by simp [listC]
  | [], _ :: _ => by simp [listC]
  | _ :: _, [] => by simp [listC]
  | a :: r, b :: s => by
    simp only [listC, List.cons.injEq]
    by_cases e : c a b = 0
    · rw [if_pos e, listC_zero h r s]
      simp [(h a b).1 e]
    · rw [if_neg e]
      have : ¬ a = b := fun e2 => e ((h a b).2 e2)
      simp [e, this]
theorem intPre : Pre Lib.compareInt := by
  refine ⟨fun a b => ?_, fun a b => ?_, fun a b => ?_, fun a b d => ?_⟩ <;> unfold Lib.compareInt <;> (repeat' split) <;> omega
theorem int_zero (a b : Int) : Lib.compareInt a b = 0 ↔ a = b := by unfold Lib.compareInt; (repeat' split) <;> omega
def byteC (a b : UInt8) : Int := Lib.compareInt a.toNat b.toNat
theorem bytes_list : ∀ l m, Lib.compareBytes l m = listC byteC l m
  | [], [] => rfl
  | [], _ :: _ => rfl
  | _ :: _, [] => rfl
  | a :: r, b :: s => by
    simp only [Lib.compareBytes, listC]
    rw [bytes_list r s]
    unfold byteC Lib.compareInt
    simp only [UInt8.lt_iff_toNat_lt, Int.ofNat_lt, gt_iff_lt]
    repeat' split
    all_goals first | rfl | omega
def strC (a b : ByteArray) : Int := Lib.compareBytes a.data.toList b.data.toList
theorem strPre : Pre strC := by
  have : strC = fun a b => listC byteC a.data.toList b.data.toList := by funext a b; exact bytes_list _ _
  rw [this]
  exact ((intPre.map (fun b : UInt8 => (b.toNat : Int))).list).map fun s : ByteArray => s.data.toList
theorem str_zero (a b : ByteArray) : strC a b = 0 ↔ a = b := by
  unfold strC
  rw [bytes_list, listC_zero (c := byteC) (fun x y => by unfold byteC; rw [int_zero]; constructor
                                                         · intro e; exact UInt8.toNat_inj.1 (by omega)
                                                         · rintro rfl; rfl)]
  constructor
  · intro e; exact ByteArray.ext (Array.toList_inj.1 e)
  · rintro rfl; rfl
end Go.Proofs.YtlcbgklealipoaaGreatDoor
end

section
/- Spans: which may be, and which of two is the greater one (plain). -/
namespace Go.Proofs.YtlcbgklealipoaaGreatDoor
set_option linter.unusedVariables false
set_option linter.unusedSimpArgs false

structure Atr where
  key : ByteArray
  k : Int
  t : ByteArray
  i : Int
structure Evt where
  at_ : Int
  n : ByteArray
structure Spn where
  hi : Nat
  lo : Nat
  id : Nat
  par : Nat
  links : List Nat
  svc : ByteArray
  op : ByteArray
  kind : Int
  st : Int
  start : Int
  fin : Int
  ats : List Atr
  evs : List Evt
theorem Atr.ext' {a b : Atr} (h1 : a.key = b.key) (h2 : a.k = b.k) (h3 : a.t = b.t) (h4 : a.i = b.i) : a = b := by cases a; cases b; simp_all
theorem Evt.ext' {a b : Evt} (h1 : a.at_ = b.at_) (h2 : a.n = b.n) : a = b := by cases a; cases b; simp_all
theorem Spn.ext' {a b : Spn} (h1 : a.hi = b.hi) (h2 : a.lo = b.lo) (h3 : a.id = b.id) (h4 : a.par = b.par) (h5 : a.links = b.links) (h6 : a.svc = b.svc) (h7 : a.op = b.op) (h8 : a.kind = b.kind) (h9 : a.st = b.st) (h10 : a.start = b.start) (h11 : a.fin = b.fin) (h12 : a.ats = b.ats) (h13 : a.evs = b.evs) : a = b := by cases a; cases b; simp_all

def natC (a b : Nat) : Int := Lib.compareInt a b
theorem natPre : Pre natC := intPre.map fun n : Nat => (n : Int)
theorem nat_zero (a b : Nat) : natC a b = 0 ↔ a = b := by unfold natC; rw [int_zero]; omega
/-! ### the orders -/
def atrC (a b : Atr) : Int := orFirst [strC a.key b.key, Lib.compareInt a.k b.k, strC a.t b.t, Lib.compareInt a.i b.i]
def evtC (a b : Evt) : Int := orFirst [Lib.compareInt a.at_ b.at_, strC a.n b.n]
theorem atrPre : Pre atrC := by
  have : atrC = orAll [fun a b => strC a.key b.key, fun a b => Lib.compareInt a.k b.k, fun a b => strC a.t b.t, fun a b => Lib.compareInt a.i b.i] := rfl
  rw [this]
  refine Pre.all _ fun c hc => ?_
  simp only [List.mem_cons, List.not_mem_nil, or_false] at hc
  rcases hc with rfl | rfl | rfl | rfl
  · exact strPre.map Atr.key
  · exact intPre.map Atr.k
  · exact strPre.map Atr.t
  · exact intPre.map Atr.i
theorem evtPre : Pre evtC := by
  have : evtC = orAll [fun a b => Lib.compareInt a.at_ b.at_, fun a b => strC a.n b.n] := rfl
  rw [this]
  refine Pre.all _ fun c hc => ?_
  simp only [List.mem_cons, List.not_mem_nil, or_false] at hc
  rcases hc with rfl | rfl
  · exact intPre.map Evt.at_
  · exact strPre.map Evt.n
theorem atr_zero (a b : Atr) : atrC a b = 0 ↔ a = b := by
  unfold atrC
  rw [orFirst_zero]
  simp only [List.mem_cons, List.not_mem_nil, or_false, forall_eq_or_imp, forall_eq, str_zero, int_zero]
  constructor
  · rintro ⟨h1, h2, h3, h4⟩; exact Atr.ext' h1 h2 h3 h4
  · rintro rfl; exact ⟨rfl, rfl, rfl, rfl⟩
theorem evt_zero (a b : Evt) : evtC a b = 0 ↔ a = b := by
  unfold evtC
  rw [orFirst_zero]
  simp only [List.mem_cons, List.not_mem_nil, or_false, forall_eq_or_imp, forall_eq, str_zero, int_zero]
  constructor
  · rintro ⟨h1, h2⟩; exact Evt.ext' h1 h2
  · rintro rfl; exact ⟨rfl, rfl⟩
/-- The order of names. -/
def nameC (a b : Spn) : Int := orFirst [natC a.hi b.hi, natC a.lo b.lo, natC a.id b.id]
/-- The order of what stands behind the name. -/
def restC (a b : Spn) : Int := orFirst [Lib.compareInt a.fin b.fin, Lib.compareInt b.start a.start, Lib.compareInt a.st b.st, natC a.par b.par, strC a.svc b.svc, strC a.op b.op, Lib.compareInt a.kind b.kind, listC natC a.links b.links, listC atrC a.ats b.ats, listC evtC a.evs b.evs]
def spnC (a b : Spn) : Int := if nameC a b = 0 then restC a b else nameC a b
theorem spnPre : Pre spnC := by
  have e1 : nameC = orAll [fun a b => natC a.hi b.hi, fun a b => natC a.lo b.lo, fun a b => natC a.id b.id] := rfl
  have e2 : restC = orAll [fun a b => Lib.compareInt a.fin b.fin, fun a b => Lib.compareInt b.start a.start, fun a b => Lib.compareInt a.st b.st, fun a b => natC a.par b.par, fun a b => strC a.svc b.svc, fun a b => strC a.op b.op, fun a b => Lib.compareInt a.kind b.kind, fun a b => listC natC a.links b.links, fun a b => listC atrC a.ats b.ats, fun a b => listC evtC a.evs b.evs] := rfl
  refine Pre.lex (c := nameC) (d := restC) ?_ ?_
  · rw [e1]
    refine Pre.all _ fun c hc => ?_
    simp only [List.mem_cons, List.not_mem_nil, or_false] at hc
    rcases hc with rfl | rfl | rfl
    · exact natPre.map Spn.hi
    · exact natPre.map Spn.lo
    · exact natPre.map Spn.id
  · rw [e2]
    refine Pre.all _ fun c hc => ?_
    simp only [List.mem_cons, List.not_mem_nil, or_false] at hc
    rcases hc with rfl | rfl | rfl | rfl | rfl | rfl | rfl | rfl | rfl | rfl
    · exact intPre.map Spn.fin
    · exact (intPre.map Spn.start).flip
    · exact intPre.map Spn.st
    · exact natPre.map Spn.par
    · exact strPre.map Spn.svc
    · exact strPre.map Spn.op
    · exact intPre.map Spn.kind
    · exact natPre.list.map Spn.links
    · exact atrPre.list.map Spn.ats
    · exact evtPre.list.map Spn.evs
theorem spn_zero (a b : Spn) : spnC a b = 0 ↔ a = b := by
  have h1 : nameC a b = 0 ↔ a.hi = b.hi ∧ a.lo = b.lo ∧ a.id = b.id := by
    unfold nameC
    rw [orFirst_zero]
    simp only [List.mem_cons, List.not_mem_nil, or_false, forall_eq_or_imp, forall_eq, nat_zero]
  have h2 : restC a b = 0 ↔ a.fin = b.fin ∧ b.start = a.start ∧ a.st = b.st ∧ a.par = b.par ∧ a.svc = b.svc ∧ a.op = b.op ∧ a.kind = b.kind ∧ a.links = b.links ∧ a.ats = b.ats ∧ a.evs = b.evs := by
    unfold restC
    rw [orFirst_zero]
    simp only [List.mem_cons, List.not_mem_nil, or_false, forall_eq_or_imp, forall_eq, nat_zero, int_zero, str_zero, listC_zero nat_zero, listC_zero atr_zero, listC_zero evt_zero]
  unfold spnC
  by_cases e : nameC a b = 0
  · rw [if_pos e, h2]
    have ⟨e1, e2, e3⟩ := h1.1 e
    constructor
    · rintro ⟨p1, p2, p3, p4, p5, p6, p7, p8, p9, p10⟩
      exact Spn.ext' e1 e2 e3 p4 p8 p5 p6 p7 p3 p2.symm p1 p9 p10
    · rintro rfl; simp
  · rw [if_neg e]
    constructor
    · intro h; exact absurd h e
    · rintro rfl; exact absurd (h1.2 ⟨rfl, rfl, rfl⟩) e
end Go.Proofs.YtlcbgklealipoaaGreatDoor
end

section
/- Which spans may be (plain). -/
namespace Go.Proofs.YtlcbgklealipoaaGreatDoor
set_option linter.unusedVariables false
set_option linter.unusedSimpArgs false

/-- A text of 1 to most bytes of UTF-8, none below fr, none 127. -/
def plainS (s : ByteArray) (most fr : Nat) : Bool := !decide (s.size = 0) && (decide (s.size ≤ most) && (Lib.validD s.data.toList && s.data.toList.all fun b => decide (fr ≤ b.toNat ∧ b.toNat ≠ 127)))
def keyB (b : UInt8) : Bool := decide ((97 ≤ b.toNat ∧ b.toNat ≤ 122) ∨ (48 ≤ b.toNat ∧ b.toNat ≤ 57) ∨ b.toNat = 46 ∨ b.toNat = 95 ∨ b.toNat = 45)
def keyedS (s : ByteArray) : Bool := !decide (s.size = 0) && (decide (s.size ≤ 40) && (decide (97 ≤ (s.data.toList.getD 0 0).toNat ∧ (s.data.toList.getD 0 0).toNat ≤ 122) && s.data.toList.all keyB))
def valuedS (a : Atr) : Bool :=
  if a.k = 0 then decide (a.i = 0) && (decide (a.t.size ≤ 200) && Lib.validD a.t.data.toList)
  else if a.k = 1 then decide (a.t.size = 0)
  else if a.k = 2 then decide (a.t.size = 0) && decide (a.i = 0 ∨ a.i = 1)
  else false
/-- Links that rise, none of them the span's own. -/
def risesS (id : Nat) : Nat → List Nat → Bool
  | _, [] => true
  | last, x :: r => decide (last < x ∧ x ≠ id) && risesS id x r
def linkedS (s : Spn) : Bool := risesS s.id 0 s.links && decide (s.links.length ≤ 16)
/-- Attributes, behind the one that stands ahead. -/
def carriesS : Option Atr → List Atr → Bool
  | _, [] => true
  | p, x :: r => (keyedS x.key && valuedS x && (match p with | none => true | some y => decide (strC y.key x.key < 0))) && carriesS (some x) r
def carriedS (l : List Atr) : Bool := carriesS none l && decide (l.length ≤ 32)
def tellsS : Option Evt → List Evt → Bool
  | _, [] => true
  | p, x :: r => (decide (0 ≤ x.at_ ∧ x.at_ ≤ 4611686018427387904) && plainS x.n 100 32 && (match p with | none => true | some y => decide (evtC y x < 0))) && tellsS (some x) r
def toldS (l : List Evt) : Bool := tellsS none l && decide (l.length ≤ 32)
/-- What is wrong with a span; 0: nothing. -/
def checkS (s : Spn) : Int :=
  if (s.hi = 0 ∧ s.lo = 0) ∨ s.id = 0 then 41
  else if s.start < 0 ∨ s.fin < s.start ∨ 4611686018427387904 < s.fin then 42
  else if plainS s.svc 60 33 = false ∨ plainS s.op 100 32 = false then 43
  else if s.kind < 0 ∨ 4 < s.kind ∨ s.st < 0 ∨ 2 < s.st then 44
  else if linkedS s = false then 45
  else if carriedS s.ats = false then 46
  else if toldS s.evs = false then 47
  else 0
/-- The greater one of two of one name. -/
def joinS (a b : Spn) : Spn := if spnC a b < 0 then b else a
theorem joinS_comm (a b : Spn) : joinS a b = joinS b a := by
  unfold joinS
  have t := spnPre.turn a b
  by_cases h : spnC a b < 0
  · rw [if_pos h, if_neg (by omega)]
  · rw [if_neg h]
    by_cases e : spnC a b = 0
    · rw [if_neg (by omega)]; exact (spn_zero a b).1 e
    · rw [if_pos (by omega)]
theorem joinS_self (a : Spn) : joinS a a = a := by unfold joinS; split <;> rfl
theorem joinS_ge (a b : Spn) : 0 ≤ spnC (joinS a b) a ∧ 0 ≤ spnC (joinS a b) b := by
  unfold joinS
  have t := spnPre.turn a b
  have s1 := spnPre.self a
  have s2 := spnPre.self b
  split <;> constructor <;> omega
theorem joinS_assoc (a b c : Spn) : joinS (joinS a b) c = joinS a (joinS b c) := by
  have tab := spnPre.turn a b
  have tbc := spnPre.turn b c
  have tac := spnPre.turn a c
  unfold joinS
  by_cases h1 : spnC a b < 0
  · rw [if_pos h1]
    by_cases h2 : spnC b c < 0
    · rw [if_pos h2]
      have := spnPre.trans a b c (by omega) (by omega)
      by_cases h3 : spnC a c < 0
      · rw [if_pos h3]
      · exfalso
        have e : spnC a c = 0 := by omega
        have al := spnPre.alike e b
        have := spnPre.turn c b
        omega
    · rw [if_neg h2, if_pos h1]
  · rw [if_neg h1]
    by_cases h2 : spnC b c < 0
    · rw [if_pos h2]
    · rw [if_neg h2, if_neg h1]
      by_cases h3 : spnC a c < 0
      · exfalso
        have t3 := spnPre.trans c b a (by omega) (by omega)
        omega
      · rw [if_neg h3]
end Go.Proofs.YtlcbgklealipoaaGreatDoor
end

