/- Orders: what a comparison must be, and how comparisons are put together (plain). -/
import Derived.Lib.Bytealg
import Derived.Lib.Small
namespace Go.Proofs.YtniigjfimggobaaDoor
set_option linter.unusedVariables false
set_option linter.unusedSimpArgs false

/-- A comparison that says -1, 0 or 1, turned round it says the other thing, and it goes on from one to the next. -/
structure Pre {α : Type} (c : α → α → Int) : Prop where
  lo : ∀ a b, -1 ≤ c a b
  hi : ∀ a b, c a b ≤ 1
  turn : ∀ a b, c b a = - c a b
  trans : ∀ a b d, c a b ≤ 0 → c b d ≤ 0 → c a d ≤ 0
theorem Pre.self {α : Type} {c : α → α → Int} (h : Pre c) (a : α) : c a a = 0 := by have := h.turn a a; omega
/-- Where two are alike they are alike to all. -/
theorem Pre.alike {α : Type} {c : α → α → Int} (h : Pre c) {a b : α} (e : c a b = 0) (d : α) : c a d = c b d := by
  have e2 : c b a = 0 := by rw [h.turn a b]; omega
  have p1 := h.trans b a d (by omega)
  have p2 := h.trans a b d (by omega)
  have p3 := h.trans d a b
  have p4 := h.trans d b a
  have t1 := h.turn a d
  have t2 := h.turn b d
  have := h.lo a d
  have := h.hi a d
  have := h.lo b d
  have := h.hi b d
  omega
theorem Pre.map {α β : Type} {c : β → β → Int} (h : Pre c) (f : α → β) : Pre fun a b => c (f a) (f b) :=
  ⟨fun _ _ => h.lo _ _, fun _ _ => h.hi _ _, fun _ _ => h.turn _ _, fun _ _ _ => h.trans _ _ _⟩
theorem Pre.flip {α : Type} {c : α → α → Int} (h : Pre c) : Pre fun a b => c b a :=
  ⟨fun _ _ => h.lo _ _, fun _ _ => h.hi _ _, fun _ _ => h.turn _ _, fun _ _ _ p q => h.trans _ _ _ q p⟩
/-- The first that is not 0. -/
def orFirst : List Int → Int
  | [] => 0
  | x :: r => if x = 0 then orFirst r else x
theorem Pre.zero {α : Type} : Pre fun (_ _ : α) => (0 : Int) := ⟨fun _ _ => by omega, fun _ _ => by omega, fun _ _ => rfl, fun _ _ _ _ _ => by omega⟩
theorem Pre.lex {α : Type} {c d : α → α → Int} (h : Pre c) (k : Pre d) : Pre fun a b => if c a b = 0 then d a b else c a b := by
  refine ⟨fun a b => ?_, fun a b => ?_, fun a b => ?_, fun a b x => ?_⟩
  · split
    · exact k.lo a b
    · exact h.lo a b
  · split
    · exact k.hi a b
    · exact h.hi a b
  · have t := h.turn a b
    by_cases e : c a b = 0
    · simp only [if_pos e, if_pos (show c b a = 0 by omega)]
      exact k.turn a b
    · simp only [if_neg e, if_neg (show ¬ c b a = 0 by omega)]
      exact t
  · intro p q
    by_cases e : c a b = 0
    · simp only [if_pos e] at p
      have al := h.alike e x
      by_cases e2 : c b x = 0
      · simp only [if_pos e2] at q
        simp only [if_pos (show c a x = 0 by omega)]
        exact k.trans a b x p q
      · simp only [if_neg e2] at q
        simp only [if_neg (show ¬ c a x = 0 by omega)]
        omega
    · simp only [if_neg e] at p
      by_cases e2 : c b x = 0
      · have al := h.alike (show c x b = 0 by rw [h.turn b x]; omega) a
        have t1 := h.turn a x
        have t2 := h.turn a b
        simp only [if_neg (show ¬ c a x = 0 by omega)]
        omega
      · simp only [if_neg e2] at q
        have tr := h.trans a b x p q
        have ne : ¬ c a x = 0 := fun e3 => by
          have al := h.alike e3 b
          have t2 := h.turn b x
          omega
        simp only [if_neg ne]
        exact tr
/-- Comparisons, one behind the other. -/
def orAll {α : Type} (cs : List (α → α → Int)) (a b : α) : Int := orFirst (cs.map fun c => c a b)
theorem Pre.all {α : Type} : ∀ cs : List (α → α → Int), (∀ c ∈ cs, Pre c) → Pre (orAll cs)
  | [], _ => Pre.zero
  | c :: r, h => by
    have e : orAll (c :: r) = fun a b => if c a b = 0 then orAll r a b else c a b := rfl
    rw [e]
    exact (h c (List.mem_cons_self ..)).lex (Pre.all r fun d hd => h d (List.mem_cons_of_mem _ hd))
theorem orFirst_zero : ∀ l : List Int, orFirst l = 0 ↔ ∀ x ∈ l, x = 0
  | [] => by simp [orFirst]
  | x :: r => by
    unfold orFirst
    by_cases h : x = 0
    · rw [if_pos h, orFirst_zero r]; simp [h]
    · rw [if_neg h]; simp [h]
/-- Lists, element by element; the shorter one first. -/
def listC {α : Type} (c : α → α → Int) : List α → List α → Int
  | [], [] => 0
  | [], _ :: _ => -1
  | _ :: _, [] => 1
  | a :: r, b :: s => if c a b = 0 then listC c r s else c a b
theorem Pre.list {α : Type} {c : α → α → Int} (h : Pre c) : Pre (listC c) := by
  refine ⟨fun a => ?_, fun a => ?_, fun a => ?_, fun a => ?_⟩
  · induction a with
    | nil => intro b; cases b <;> simp [listC]
    | cons x r ih =>
      intro b
      cases b with
      | nil => simp [listC]
      | cons y s =>
        simp only [listC]
        split
        · exact ih s
        · exact h.lo x y
  · induction a with
    | nil => intro b; cases b <;> simp [listC]
    | cons x r ih =>
      intro b
      cases b with
      | nil => simp [listC]
      | cons y s =>
        simp only [listC]
        split
        · exact ih s
        · exact h.hi x y
  · induction a with
    | nil => intro b; cases b <;> simp [listC]
    | cons x r ih =>
      intro b
      cases b with
      | nil => simp [listC]
      | cons y s =>
        simp only [listC]
        have t := h.turn x y
        by_cases e : c x y = 0
        · rw [if_pos e, if_pos (by omega)]; exact ih s
        · rw [if_neg e, if_neg (by omega)]; exact t
  · induction a with
    | nil => intro b d; cases b <;> cases d <;> simp [listC]
    | cons x r ih =>
      intro b d
      cases b with
      | nil => cases d <;> simp [listC]
      | cons y s =>
        cases d with
        | nil => simp [listC]
        | cons z t =>
          simp only [listC]
          intro p q
          by_cases e : c x y = 0
          · rw [if_pos e] at p
            have al := h.alike e z
            by_cases e2 : c y z = 0
            · rw [if_pos e2] at q
              rw [if_pos (by omega)]
              exact ih s t p q
            · rw [if_neg e2] at q
              rw [if_neg (by omega)]
              omega
          · rw [if_neg e] at p
            by_cases e2 : c y z = 0
            · have al := h.alike (show c z y = 0 by rw [h.turn y z]; omega) x
              have t1 := h.turn x z
              have t2 := h.turn x y
              rw [if_neg (by omega)]
              omega
            · rw [if_neg e2] at q
              have tr := h.trans x y z p q
              have ne : ¬ c x z = 0 := fun e3 => by
                have al := h.alike e3 y
                have t2 := h.turn y z
                omega
              rw [if_neg ne]
              exact tr
theorem listC_zero {α : Type} {c : α → α → Int} (h : ∀ a b, c a b = 0 ↔ a = b) : ∀ l m, listC c l m = 0 ↔ l = m
  | [], [] => by simp [listC]
  | [], _ :: _ => by simp [listC]
  | _ :: _, [] => by simp [listC]
  | a :: r, b :: s => by
    simp only [listC, List.cons.injEq]
    by_cases e : c a b = 0
    · rw [if_pos e, listC_zero h r s]
      simp [(h a b).1 e]
    · rw [if_neg e]
      have : ¬ a = b := fun e2 => e ((h a b).2 e2)
      simp [e, this]
theorem intPre : Pre Lib.compareInt := by
  refine ⟨fun a b => ?_, fun a b => ?_, fun a b => ?_, fun a b d => ?_⟩ <;> unfold Lib.compareInt <;> (repeat' split) <;> omega
theorem int_zero (a b : Int) : Lib.compareInt a b = 0 ↔ a = b := by unfold Lib.compareInt; (repeat' split) <;> omega
def byteC (a b : UInt8) : Int := Lib.compareInt a.toNat b.toNat
theorem bytes_list : ∀ l m, Lib.compareBytes l m = listC byteC l m
  | [], [] => rfl
  | [], _ :: _ => rfl
  | _ :: _, [] => rfl
  | a :: r, b :: s => by
    simp only [Lib.compareBytes, listC]
    rw [bytes_list r s]
    unfold byteC Lib.compareInt
    simp only [UInt8.lt_iff_toNat_lt, Int.ofNat_lt, gt_iff_lt]
    repeat' split
    all_goals first | rfl | omega
def strC (a b : ByteArray) : Int := Lib.compareBytes a.data.toList b.data.toList
theorem strPre : Pre strC := by
  have : strC = fun a b => listC byteC a.data.toList b.data.toList := by funext a b; exact bytes_list _ _
  rw [this]
  exact ((intPre.map (fun b : UInt8 => (b.toNat : Int))).list).map fun s : ByteArray => s.data.toList
theorem str_zero (a b : ByteArray) : strC a b = 0 ↔ a = b := by
  unfold strC
  rw [bytes_list, listC_zero (c := byteC) (fun x y => by unfold byteC; rw [int_zero]; constructor
                                                         · intro e; exact UInt8.toNat_inj.1 (by omega)
                                                         · rintro rfl; rfl)]
  constructor
  · intro e; exact ByteArray.ext (Array.toList_inj.1 e)
  · rintro rfl; rfl
end Go.Proofs.YtniigjfimggobaaDoor
