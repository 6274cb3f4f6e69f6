import Derived.Test.YtlcbgklealipoaaGreatDoorZA
section
/- Readers of a batch: what is read of bytes, piece by piece (plain). -/
namespace Go.Proofs.YtlcbgklealipoaaGreatDoor
open Go.RowKit
set_option linter.unusedVariables false
set_option linter.unusedSimpArgs false

/-- Where a batch's reader stands: its place; how many texts and traces were spoken of; the moment that the next one is told by. -/
structure BSt where
  n : Nat
  tu : Nat
  ru : Nat
  st : Int
inductive BRes (α : Type) where
  | ok (a : α) (s : BSt)
  | err (a no : Int)
def Rdr (α : Type) : Type := List Int → BSt → BRes α
section
variable {α β : Type}
def Rdr.ret (a : α) : Rdr α := fun _ s => .ok a s
def Rdr.bind (f : Rdr α) (g : α → Rdr β) : Rdr β := fun L s => match f L s with | .ok a s' => g a L s' | .err a no => .err a no
/-- What is wrong with what was read is told at its beginning. -/
def Rdr.chk (f : Rdr α) (c : α → BSt → Option Int) : Rdr α := fun L s => match f L s with
  | .ok a s' => match c a s with | none => .ok a s' | some no => .err s.n no
  | .err a no => .err a no
/-- What was read turns what was spoken of. -/
def Rdr.upd (f : Rdr α) (u : α → BSt → BSt → BSt) : Rdr α := fun L s => match f L s with
  | .ok a s' => .ok a { u a s s' with n := s'.n }
  | .err a no => .err a no
/-- What was read, told with the state ahead of it. -/
def Rdr.mapS (f : Rdr α) (g : α → BSt → β) : Rdr β := fun L s => match f L s with | .ok a s' => .ok (g a s) s' | .err a no => .err a no
def Rdr.map (f : Rdr α) (g : α → β) : Rdr β := f.mapS fun a _ => g a
/-- So many steps. -/
def Rdr.loop (f : α → Rdr α) : Nat → α → Rdr α
  | 0, a => Rdr.ret a
  | k + 1, a => (Rdr.loop f k a).bind f
def uintR : Rdr Nat := fun L s => match numR (L.drop s.n) 0 0 with
  | .ok x k => .ok x { s with n := s.n + k }
  | .form => .err s.n 12
  | .fin => .err L.length 11
def intR : Rdr Int := uintR.map fun x => zag x
def bytesR (k : Nat) : Rdr (List Int) := fun L s => match rawR L s.n k with
  | .ok q m => .ok q { s with n := m }
  | .err a no => .err a no
def textRd (most : Nat) : Rdr ByteArray := fun L s => match textR L s.n most with
  | .ok q m => .ok (strOfNums q) { s with n := m }
  | .err a no => .err a no

/-! ### what every reader keeps to -/
structure Good (f : Rdr α) : Prop where
  ok : ∀ {L s a s'}, Bytes L → s.n ≤ L.length → f L s = .ok a s' → s.n ≤ s'.n ∧ s'.n ≤ L.length
  loc : ∀ {L s a s'} (k : Nat), Bytes L → s.n ≤ L.length → f L s = .ok a s' → s'.n ≤ k → f (L.take k) s = .ok a s'
  cut : ∀ {L s a s'} (k : Nat), Bytes L → s.n ≤ L.length → f L s = .ok a s' → s.n ≤ k → k < s'.n → f (L.take k) s = .err k 11
  err : ∀ {L s a no}, Bytes L → s.n ≤ L.length → f L s = .err a no → 0 ≤ a ∧ a ≤ L.length ∧ no ≠ 0
theorem take_len {L : List Int} {k : Nat} (h : k ≤ L.length) : (L.take k).length = k := by rw [List.length_take]; omega
theorem bytes_take {L : List Int} (h : Bytes L) (k : Nat) : Bytes (L.take k) := fun x hx => h x (List.mem_of_mem_take hx)
theorem Good.ret (a : α) : Good (Rdr.ret a) := by
  refine ⟨fun hb hn h => ?_, fun k hb hn h hk => ?_, fun k hb hn h h1 h2 => ?_, fun hb hn h => ?_⟩
  · injection h with _ h; subst h; omega
  · injection h with h1 h2; subst h1 h2; rfl
  · injection h with _ h; subst h; omega
  · cases h
theorem Good.bind {f : Rdr α} {g : α → Rdr β} (hf : Good f) (hg : ∀ a, Good (g a)) : Good (f.bind g) := by
  have key : ∀ {L s b s'}, f.bind g L s = .ok b s' → ∃ a s1, f L s = .ok a s1 ∧ g a L s1 = .ok b s' := by
    intro L s b s' h
    unfold Rdr.bind at h
    split at h
    · exact ⟨_, _, by assumption, h⟩
    · cases h
  refine ⟨fun hb hn h => ?_, fun k hb hn h hk => ?_, fun k hb hn h h1 h2 => ?_, fun hb hn h => ?_⟩
  · obtain ⟨a, s1, e1, e2⟩ := key h
    have h1 := hf.ok hb hn e1
    have h2 := (hg a).ok hb h1.2 e2
    omega
  · obtain ⟨a, s1, e1, e2⟩ := key h
    have h1 := hf.ok hb hn e1
    have h2 := (hg a).ok hb h1.2 e2
    unfold Rdr.bind
    rw [hf.loc k hb hn e1 (by omega)]
    exact (hg a).loc k hb h1.2 e2 hk
  · obtain ⟨a, s1, e1, e2⟩ := key h
    have h3 := hf.ok hb hn e1
    have h4 := (hg a).ok hb h3.2 e2
    unfold Rdr.bind
    by_cases hk : k < s1.n
    · rw [hf.cut k hb hn e1 h1 hk]
    · rw [hf.loc k hb hn e1 (by omega)]
      exact (hg a).cut k hb h3.2 e2 (by omega) h2
  · unfold Rdr.bind at h
    split at h
    · rename_i a s1 e1
      exact (hg a).err hb (hf.ok hb hn e1).2 h
    · rename_i a no e1
      injection h with h1 h2
      subst h1 h2
      exact hf.err hb hn e1
theorem Good.mapS {f : Rdr α} (hf : Good f) (g : α → BSt → β) : Good (f.mapS g) := by
  have key : ∀ {L s b s'}, f.mapS g L s = .ok b s' → ∃ a, f L s = .ok a s' ∧ b = g a s := by
    intro L s b s' h
    unfold Rdr.mapS at h
    split at h
    · injection h with h1 h2; subst h2; exact ⟨_, by assumption, h1.symm⟩
    · cases h
  refine ⟨fun hb hn h => ?_, fun k hb hn h hk => ?_, fun k hb hn h h1 h2 => ?_, fun hb hn h => ?_⟩
  · obtain ⟨a, e1, _⟩ := key h
    exact hf.ok hb hn e1
  · obtain ⟨a, e1, rfl⟩ := key h
    unfold Rdr.mapS
    rw [hf.loc k hb hn e1 hk]
  · obtain ⟨a, e1, rfl⟩ := key h
    unfold Rdr.mapS
    rw [hf.cut k hb hn e1 h1 h2]
  · unfold Rdr.mapS at h
    split at h
    · cases h
    · rename_i a no e1
      injection h with h1 h2
      subst h1 h2
      exact hf.err hb hn e1
theorem Good.map {f : Rdr α} (hf : Good f) (g : α → β) : Good (f.map g) := hf.mapS _
theorem Good.chk {f : Rdr α} (hf : Good f) (c : α → BSt → Option Int) (hc : ∀ a s, c a s ≠ some 0) : Good (f.chk c) := by
  have key : ∀ {L s b s'}, f.chk c L s = .ok b s' → f L s = .ok b s' ∧ c b s = none := by
    intro L s b s' h
    unfold Rdr.chk at h
    split at h
    · rename_i a s1 e1
      split at h
      · rename_i e2
        injection h with h1 h2; subst h1 h2; exact ⟨e1, e2⟩
      · cases h
    · cases h
  refine ⟨fun hb hn h => hf.ok hb hn (key h).1, fun k hb hn h hk => ?_, fun k hb hn h h1 h2 => ?_, fun hb hn h => ?_⟩
  · obtain ⟨e1, e2⟩ := key h
    unfold Rdr.chk
    rw [hf.loc k hb hn e1 hk]
    simp only [e2]
  · obtain ⟨e1, e2⟩ := key h
    unfold Rdr.chk
    rw [hf.cut k hb hn e1 h1 h2]
  · unfold Rdr.chk at h
    split at h
    · rename_i a s1 e1
      split at h
      · cases h
      · rename_i no' e2
        injection h with h1 h2
        subst h1 h2
        exact ⟨by omega, by omega, fun e => hc _ _ (by rw [e2, e])⟩
    · rename_i a no e1
      injection h with h1 h2
      subst h1 h2
      exact hf.err hb hn e1
theorem Good.upd {f : Rdr α} (hf : Good f) (u : α → BSt → BSt → BSt) : Good (f.upd u) := by
  have key : ∀ {L s b s'}, f.upd u L s = .ok b s' → ∃ s1, f L s = .ok b s1 ∧ s' = { u b s s1 with n := s1.n } := by
    intro L s b s' h
    unfold Rdr.upd at h
    split at h
    · rename_i a s1 e1
      injection h with h1 h2
      subst h1
      exact ⟨s1, e1, h2.symm⟩
    · cases h
  refine ⟨fun hb hn h => ?_, fun k hb hn h hk => ?_, fun k hb hn h h1 h2 => ?_, fun hb hn h => ?_⟩
  · obtain ⟨s1, e1, rfl⟩ := key h
    have h1 := hf.ok hb hn e1
    exact ⟨h1.1, h1.2⟩
  · obtain ⟨s1, e1, rfl⟩ := key h
    unfold Rdr.upd
    rw [hf.loc k hb hn e1 (show s1.n ≤ k from hk)]
  · obtain ⟨s1, e1, rfl⟩ := key h
    unfold Rdr.upd
    rw [hf.cut k hb hn e1 h1 (show k < s1.n from h2)]
  · unfold Rdr.upd at h
    split at h
    · cases h
    · rename_i a no e1
      injection h with h1 h2
      subst h1 h2
      exact hf.err hb hn e1
theorem Good.loop {f : α → Rdr α} (hf : ∀ a, Good (f a)) : ∀ k a, Good (Rdr.loop f k a)
  | 0, a => Good.ret a
  | k + 1, a => (Good.loop hf k a).bind hf

/-! ### what is read is what is written -/
/-- Reading takes just the bytes that writing lays down (a relation: from which state, what, its bytes, to which state). -/
structure Exact (f : Rdr α) (enc : BSt → α → List Int → BSt → Prop) : Prop where
  form : ∀ {L s a s'}, Bytes L → s.n ≤ L.length → f L s = .ok a s' → s.n ≤ s'.n ∧ s'.n ≤ L.length ∧ enc s a (seg L s.n s'.n) s'
  back : ∀ {L s a l s' rest}, enc s a l s' → L.drop s.n = l ++ rest → f L s = .ok a s' ∧ s'.n = s.n + l.length
theorem Exact.ret (a : α) : Exact (Rdr.ret a) fun s x l s' => x = a ∧ l = [] ∧ s' = s := by
  constructor
  · intro L s x s' hb hn h
    injection h with h1 h2
    subst h1 h2
    exact ⟨Nat.le_refl _, hn, rfl, by simp [seg], rfl⟩
  · rintro L s x l s' rest ⟨rfl, rfl, rfl⟩ h
    exact ⟨rfl, by simp⟩
theorem Exact.bind {f : Rdr α} {g : α → Rdr β} {E : BSt → α → List Int → BSt → Prop} {F : α → BSt → β → List Int → BSt → Prop} (hf : Exact f E) (hg : ∀ a, Exact (g a) (F a)) :
    Exact (f.bind g) fun s b l s' => ∃ a l1 s1 l2, l = l1 ++ l2 ∧ E s a l1 s1 ∧ F a s1 b l2 s' := by
  constructor
  · intro L s b s' hb hn h
    unfold Rdr.bind at h
    split at h
    · rename_i a s1 e1
      obtain ⟨h1, h2, h3⟩ := hf.form hb hn e1
      obtain ⟨h4, h5, h6⟩ := (hg a).form hb h2 h
      exact ⟨by omega, h5, a, _, s1, _, seg_trans L h1 h4, h3, h6⟩
    · cases h
  · rintro L s b l s' rest ⟨a, l1, s1, l2, rfl, h1, h2⟩ hd
    rw [List.append_assoc] at hd
    obtain ⟨e1, n1⟩ := hf.back h1 hd
    have hd2 := drop_next hd
    rw [← n1] at hd2
    obtain ⟨e2, n2⟩ := (hg a).back h2 hd2
    refine ⟨?_, by rw [List.length_append]; omega⟩
    unfold Rdr.bind
    rw [e1]
    exact e2
theorem Exact.mapS {f : Rdr α} {E : BSt → α → List Int → BSt → Prop} (hf : Exact f E) (g : α → BSt → β) : Exact (f.mapS g) fun s b l s' => ∃ a, b = g a s ∧ E s a l s' := by
  constructor
  · intro L s b s' hb hn h
    unfold Rdr.mapS at h
    split at h
    · rename_i a s1 e1
      injection h with h1 h2
      subst h2
      obtain ⟨h3, h4, h5⟩ := hf.form hb hn e1
      exact ⟨h3, h4, a, h1.symm, h5⟩
    · cases h
  · rintro L s b l s' rest ⟨a, rfl, h1⟩ hd
    obtain ⟨e1, n1⟩ := hf.back h1 hd
    exact ⟨by unfold Rdr.mapS; rw [e1], n1⟩
theorem Exact.map {f : Rdr α} {E : BSt → α → List Int → BSt → Prop} (hf : Exact f E) (g : α → β) : Exact (f.map g) fun s b l s' => ∃ a, b = g a ∧ E s a l s' := hf.mapS _
theorem Exact.chk {f : Rdr α} {E : BSt → α → List Int → BSt → Prop} (hf : Exact f E) (c : α → BSt → Option Int) : Exact (f.chk c) fun s a l s' => E s a l s' ∧ c a s = none := by
  constructor
  · intro L s b s' hb hn h
    unfold Rdr.chk at h
    split at h
    · rename_i a s1 e1
      split at h
      · rename_i e2
        injection h with h1 h2
        subst h1 h2
        obtain ⟨h3, h4, h5⟩ := hf.form hb hn e1
        exact ⟨h3, h4, h5, e2⟩
      · cases h
    · cases h
  · rintro L s b l s' rest ⟨h1, h2⟩ hd
    obtain ⟨e1, n1⟩ := hf.back h1 hd
    exact ⟨by unfold Rdr.chk; rw [e1]; simp only [h2], n1⟩
theorem Exact.upd {f : Rdr α} {E : BSt → α → List Int → BSt → Prop} (hf : Exact f E) (u : α → BSt → BSt → BSt) : Exact (f.upd u) fun s a l s' => ∃ s1, E s a l s1 ∧ s' = { u a s s1 with n := s1.n } := by
  constructor
  · intro L s b s' hb hn h
    unfold Rdr.upd at h
    split at h
    · rename_i a s1 e1
      injection h with h1 h2
      subst h1 h2
      obtain ⟨h3, h4, h5⟩ := hf.form hb hn e1
      exact ⟨h3, h4, s1, h5, rfl⟩
    · cases h
  · rintro L s b l s' rest ⟨s1, h1, rfl⟩ hd
    obtain ⟨e1, n1⟩ := hf.back h1 hd
    exact ⟨by unfold Rdr.upd; rw [e1], n1⟩
/-- So many steps, as they are written. -/
inductive LoopE (E : α → BSt → α → List Int → BSt → Prop) (a : α) (s : BSt) : Nat → α → List Int → BSt → Prop where
  | zero : LoopE E a s 0 a [] s
  | succ {k : Nat} {s1 s2 : BSt} {x y : α} {b c : List Int} (h : LoopE E a s k x b s1) (h2 : E x s1 y c s2) : LoopE E a s (k + 1) y (b ++ c) s2
theorem Exact.loop {f : α → Rdr α} {E : α → BSt → α → List Int → BSt → Prop} (hf : ∀ a, Exact (f a) (E a)) : ∀ k a, Exact (Rdr.loop f k a) fun s b l s' => LoopE E a s k b l s'
  | 0, a => by
    constructor
    · intro L s x s' hb hn h
      injection h with h1 h2
      subst h1 h2
      exact ⟨Nat.le_refl _, hn, by simp only [seg, Nat.sub_self, List.take_zero]; exact .zero⟩
    · rintro L s x l s' rest h1 h
      cases h1
      exact ⟨rfl, by simp⟩
  | k + 1, a => by
    have hb := (Exact.loop hf k a).bind hf
    constructor
    · intro L s x s' hbt hn h
      obtain ⟨h1, h2, y, l1, s1, l2, e, h3, h4⟩ := hb.form hbt hn h
      refine ⟨h1, h2, ?_⟩
      rw [e]
      exact .succ h3 h4
    · rintro L s x l s' rest h1 h
      cases h1 with
      | succ h3 h4 => exact hb.back ⟨_, _, _, _, rfl, h3, h4⟩ h
end
end Go.Proofs.YtlcbgklealipoaaGreatDoor
end

section
/- The pieces that a batch's reader takes: numbers, texts, so many bytes (plain). -/
namespace Go.Proofs.YtlcbgklealipoaaGreatDoor
open Go.RowKit
set_option linter.unusedVariables false
set_option linter.unusedSimpArgs false

theorem numR_take (l : List Int) : ∀ j a x m p, numR l j a = .ok x m → m ≤ j + p → numR (l.take p) j a = .ok x m := by
  induction l with
  | nil => intro j a x m p h; unfold numR at h; split at h <;> cases h
  | cons b t ih =>
    intro j a x m p h hm
    have hs := (numR_size (b :: t) j a x m h).2
    obtain ⟨q, rfl⟩ : ∃ q, p = q + 1 := ⟨p - 1, by omega⟩
    rw [List.take_succ_cons]
    unfold numR at h ⊢
    split at h
    · cases h
    · rename_i h10
      rw [if_neg h10]
      split at h
      · rename_i hb
        rw [if_pos hb]
        exact h
      · rename_i hb
        rw [if_neg hb]
        exact ih _ _ _ _ q h (by omega)
theorem numR_ten (l : List Int) (a x m : Nat) : numR l 10 a ≠ .ok x m := by
  cases l with
  | nil => simp [numR]
  | cons b t => simp [numR]
theorem numR_cut (l : List Int) : ∀ j a x m p, numR l j a = .ok x m → j + p < m → numR (l.take p) j a = .fin := by
  induction l with
  | nil => intro j a x m p h; unfold numR at h; split at h <;> cases h
  | cons b t ih =>
    intro j a x m p h hm
    have hj : j ≠ 10 := fun e => numR_ten _ _ _ _ (e ▸ h)
    cases p with
    | zero => rw [List.take_zero]; unfold numR; rw [if_neg hj]
    | succ q =>
      rw [List.take_succ_cons]
      unfold numR at h ⊢
      rw [if_neg hj] at h ⊢
      split at h
      · split at h
        · cases h
        · injection h with h1 h2
          omega
      · rename_i hb
        rw [if_neg hb]
        exact ih _ _ _ _ q h (by omega)
theorem drop_take' (L : List Int) (n k : Nat) : (L.take k).drop n = (L.drop n).take (k - n) := by rw [List.drop_take]
theorem uint_good : Good uintR := by
  have key : ∀ {L s a s'}, uintR L s = .ok a s' → ∃ k, numR (L.drop s.n) 0 0 = .ok a k ∧ s' = { s with n := s.n + k } := by
    intro L s a s' h
    unfold uintR at h
    split at h
    · rename_i x k e
      injection h with h1 h2
      subst h1
      exact ⟨k, e, h2.symm⟩
    · cases h
    · cases h
  refine ⟨fun {L s a s'} hb hn h => ?_, fun {L s a s'} k hb hn h hk => ?_, fun {L s a s'} k hb hn h h1 h2 => ?_, fun {L s a no} hb hn h => ?_⟩
  · obtain ⟨k, e, rfl⟩ := key h
    have := (numR_size _ _ _ _ _ e).1
    rw [List.length_drop] at this
    exact ⟨Nat.le_add_right _ _, by simp only; omega⟩
  · obtain ⟨m, e, rfl⟩ := key h
    unfold uintR
    rw [drop_take', numR_take _ _ _ _ _ _ e (by simp only at hk; omega)]
  · obtain ⟨m, e, rfl⟩ := key h
    have := (numR_size _ _ _ _ _ e).1
    rw [List.length_drop] at this
    unfold uintR
    rw [drop_take', numR_cut _ _ _ _ _ _ e (by simp only at h2; omega), take_len (by simp only at h2; omega)]
  · unfold uintR at h
    split at h
    · cases h
    · injection h with h1 h2
      subst h1 h2
      exact ⟨by omega, by omega, by omega⟩
    · injection h with h1 h2
      subst h1 h2
      exact ⟨by omega, by omega, by omega⟩
theorem int_good : Good intR := uint_good.map _
theorem bytesR_good (c : Nat) : Good (bytesR c) := by
  have key : ∀ {L s a s'}, bytesR c L s = .ok a s' → a = (L.drop s.n).take c ∧ c ≤ L.length - s.n ∧ s' = { s with n := s.n + c } := by
    intro L s a s' h
    unfold bytesR rawR at h
    rw [if_neg (by omega)] at h
    split at h
    · rename_i q m e
      split at e
      · cases e
      · injection e with e1 e2
        injection h with h1 h2
        subst h1
        refine ⟨e1.symm, by omega, ?_⟩
        rw [← h2, ← e2]
        rfl
    · cases h
  refine ⟨fun {L s a s'} hb hn h => ?_, fun {L s a s'} k hb hn h hk => ?_, fun {L s a s'} k hb hn h h1 h2 => ?_, fun {L s a no} hb hn h => ?_⟩
  · obtain ⟨rfl, hc, rfl⟩ := key h
    exact ⟨Nat.le_add_right _ _, by simp only; omega⟩
  · obtain ⟨rfl, hc, rfl⟩ := key h
    simp only at hk
    unfold bytesR rawR
    rw [if_neg (by omega), if_neg (by rw [List.length_take]; omega)]
    simp only
    rw [drop_take', List.take_take, Int.toNat_natCast, show min c (k - s.n) = c by omega]
  · obtain ⟨rfl, hc, rfl⟩ := key h
    simp only at h2
    unfold bytesR rawR
    rw [if_neg (by omega), take_len (by omega), if_pos (by omega)]
  · unfold bytesR rawR at h
    rw [if_neg (by omega)] at h
    split at h
    · cases h
    · rename_i e
      split at e
      · injection e with e1 e2
        injection h with h1 h2
        subst h1 h2 e1 e2
        exact ⟨by omega, by omega, by omega⟩
      · cases e
theorem textRd_good (most : Nat) : Good (textRd most) := by
  have key : ∀ {L s a s'}, s.n ≤ L.length → textRd most L s = .ok a s' → ∃ q k, a = strOfNums q ∧ numR (L.drop s.n) 0 0 = .ok q.length k ∧ q.length ≤ most ∧ s.n + k + q.length ≤ L.length ∧ q = (L.drop (s.n + k)).take q.length ∧ badR q = none ∧ s' = { s with n := s.n + k + q.length } := by
    intro L s a s' hn h
    unfold textRd textR at h
    rw [if_neg (by omega)] at h
    split at h
    · rename_i q m e
      unfold textQ at e
      split at e
      · cases e
      · cases e
      · rename_i x k e1
        split at e
        · cases e
        · split at e
          · cases e
          · split at e
            · cases e
            · rename_i hb
              injection e with e2 e3
              injection h with h1 h2
              have hk := (numR_size _ _ _ _ _ e1).1
              rw [List.length_drop] at hk
              have hq : q.length = x := by rw [← e2, List.length_take, List.length_drop]; omega
              refine ⟨q, k, h1.symm, by rw [hq]; exact e1, by omega, by omega, by rw [hq]; exact e2.symm, by rw [← e2]; exact hb, ?_⟩
              rw [← h2, ← e3, hq]
    · cases h
  refine ⟨fun {L s a s'} hb hn h => ?_, fun {L s a s'} k hb hn h hk => ?_, fun {L s a s'} k hb hn h h1 h2 => ?_, fun {L s a no} hb hn h => ?_⟩
  · obtain ⟨q, k, rfl, e, h1, h2, h3, h4, rfl⟩ := key hn h
    exact ⟨by simp only; omega, h2⟩
  · obtain ⟨q, j, rfl, e, h1, h2, h3, h4, rfl⟩ := key hn h
    simp only at hk
    unfold textRd textR
    rw [if_neg (by omega), drop_take', numR_take _ _ _ _ _ _ e (by omega)]
    simp only [textQ]
    rw [if_neg (by omega), if_neg (by rw [List.length_take]; omega), drop_take', List.take_take, show min q.length (k - (s.n + j)) = q.length by omega, ← h3, h4]
  · obtain ⟨q, j, rfl, e, h3, h4, h5, h6, rfl⟩ := key hn h
    simp only at h2
    unfold textRd textR
    rw [if_neg (by omega), drop_take']
    by_cases hk : k < s.n + j
    · rw [numR_cut _ _ _ _ _ _ e (by omega)]
      simp only [textQ]
      rw [take_len (by omega)]
    · rw [numR_take _ _ _ _ _ _ e (by omega)]
      simp only [textQ]
      rw [if_neg (by omega), take_len (by omega), if_pos (by omega)]
  · unfold textRd textR at h
    rw [if_neg (by omega)] at h
    split at h
    · cases h
    · rename_i a' no' e
      injection h with h1 h2
      subst h1 h2
      unfold textQ at e
      split at e
      · injection e with e1 e2; subst e1 e2; exact ⟨by omega, by omega, by omega⟩
      · injection e with e1 e2; subst e1 e2; exact ⟨by omega, by omega, by omega⟩
      · rename_i x k e1
        have hk := (numR_size _ _ _ _ _ e1).1
        rw [List.length_drop] at hk
        split at e
        · injection e with e1 e2; subst e1 e2; exact ⟨by omega, by omega, by omega⟩
        · split at e
          · injection e with e1 e2; subst e1 e2; exact ⟨by omega, by omega, by omega⟩
          · split at e
            · rename_i i hi
              injection e with e1 e2
              subst e1 e2
              have := badR_lt _ _ hi
              rw [List.length_take, List.length_drop] at this
              exact ⟨by omega, by omega, by omega⟩
            · cases e
/-! ### what is written -/
def uintE (s : BSt) (x : Nat) (l : List Int) (s' : BSt) : Prop := x < 18446744073709551616 ∧ l = venc x ∧ s' = { s with n := s.n + l.length }
def intE (s : BSt) (x : Int) (l : List Int) (s' : BSt) : Prop := (-9223372036854775808 ≤ x ∧ x < 9223372036854775808) ∧ l = venc (zig x).toNat ∧ s' = { s with n := s.n + l.length }
def bytesE (c : Nat) (s : BSt) (x : List Int) (l : List Int) (s' : BSt) : Prop := x.length = c ∧ Bytes x ∧ l = x ∧ s' = { s with n := s.n + l.length }
def textE (most : Nat) (s : BSt) (x : ByteArray) (l : List Int) (s' : BSt) : Prop := x.size ≤ most ∧ badR (octs x) = none ∧ l = txt x ∧ s' = { s with n := s.n + l.length }
theorem uint_exact : Exact uintR uintE := by
  constructor
  · intro L s a s' hb hn h
    have hg := uint_good.ok hb hn h
    unfold uintR at h
    split at h
    · rename_i x k e
      injection h with h1 h2
      subst h1 h2
      have hs := (numR_size _ _ _ _ _ e).1
      rw [List.length_drop] at hs
      have ho := numR_one (bytes_drop hb s.n) e
      have hl : (seg L s.n (s.n + k)).length = k := by simp only [seg, List.length_take, List.length_drop]; omega
      refine ⟨hg.1, hg.2, numR_lt _ _ _ _ _ e, ?_, ?_⟩
      · simp only [seg]
        rw [show s.n + k - s.n = k by omega, ho]
      · simp only
        rw [hl]
    · cases h
    · cases h
  · rintro L s x l s' rest ⟨hx, rfl, rfl⟩ h
    refine ⟨?_, rfl⟩
    unfold uintR
    rw [h, numR_venc _ _ hx]
theorem int_exact : Exact intR intE := by
  have h := uint_exact.map fun x => zag x
  constructor
  · intro L s a s' hb hn hr
    obtain ⟨h1, h2, x, rfl, hx, hl, hs⟩ := h.form hb hn hr
    have hz := zag_range x (by omega) (by omega)
    refine ⟨h1, h2, hz, ?_, hs⟩
    rw [zigzag _ (by omega), Int.toNat_natCast]
    exact hl
  · rintro L s x l s' rest ⟨hx, rfl, rfl⟩ hd
    have hz := zig_range x hx.1 (by omega)
    refine h.back ⟨(zig x).toNat, ?_, by omega, rfl, rfl⟩ hd
    rw [Int.toNat_of_nonneg hz.1, zagzig]
theorem bytes_exact (c : Nat) : Exact (bytesR c) (bytesE c) := by
  constructor
  · intro L s a s' hb hn h
    have hg := (bytesR_good c).ok hb hn h
    unfold bytesR rawR at h
    rw [if_neg (by omega)] at h
    split at h
    · rename_i q m e
      split at e
      · cases e
      · injection e with e1 e2
        injection h with h1 h2
        subst h1 h2 e1 e2
        have hl : ((L.drop s.n).take c).length = c := by rw [List.length_take, List.length_drop]; omega
        have hsg : seg L s.n (s.n + c) = (L.drop s.n).take c := by simp only [seg]; rw [show s.n + c - s.n = c by omega]
        refine ⟨hg.1, hg.2, hl, fun x hx => hb x (List.mem_of_mem_drop (List.mem_of_mem_take hx)), ?_, ?_⟩
        · simp only [Int.toNat_natCast]
          rw [hsg]
        · simp only [Int.toNat_natCast]
          rw [hsg, hl]
    · cases h
  · rintro L s x l s' rest ⟨hc, hb, rfl, rfl⟩ h
    refine ⟨?_, rfl⟩
    have := rawR_written h
    rw [hc] at this
    unfold bytesR
    rw [this, hc]
theorem text_exact (most : Nat) (hm : most < 1000000) : Exact (textRd most) (textE most) := by
  constructor
  · intro L s a s' hb hn h
    have hg := (textRd_good most).ok hb hn h
    unfold textRd at h
    split at h
    · rename_i q m e
      injection h with h1 h2
      subst h1 h2
      obtain ⟨g1, g2, g3, _, g5⟩ := textR_ok hb hn e
      have hsg : seg L s.n m = txt (strOfNums q) := by
        unfold seg txt
        rw [g3, strOfNums_size, octs_str g5]
      have hq : q.length ≤ most ∧ badR q = none := by
        unfold textR at e
        rw [if_neg (by omega)] at e
        unfold textQ at e
        split at e
        · cases e
        · cases e
        · split at e
          · cases e
          · split at e
            · cases e
            · split at e
              · cases e
              · rename_i hbad
                injection e with e2 e3
                refine ⟨?_, by rw [← e2]; exact hbad⟩
                rw [← e2, List.length_take]
                omega
      refine ⟨hg.1, hg.2, by rw [strOfNums_size]; exact hq.1, by rw [octs_str g5]; exact hq.2, hsg, ?_⟩
      simp only
      rw [hsg, ← hsg]
      simp only [seg, List.length_take, List.length_drop]
      congr 1
      omega
    · cases h
  · rintro L s x l s' rest ⟨h1, h2, rfl, rfl⟩ h
    refine ⟨?_, rfl⟩
    have hl := congrArg List.length h
    unfold txt at h hl
    rw [List.length_drop, List.length_append, List.length_append, octs_len] at hl
    have hp := venc_pos x.size
    have e1 : numR (L.drop s.n) 0 0 = .ok x.size (venc x.size).length := by rw [h, List.append_assoc]; exact numR_venc _ _ (by omega)
    have e2 : (L.drop (s.n + (venc x.size).length)).take x.size = octs x := by
      rw [← List.drop_drop, h, List.append_assoc, List.drop_left, ← octs_len x, List.take_left]
    unfold textRd textR
    rw [if_neg (by omega), e1]
    simp only [textQ]
    rw [if_neg (by omega), if_neg (by omega), e2, h2]
    simp only [strOfNums_octs, txt, List.length_append, octs_len, Nat.add_assoc]
end Go.Proofs.YtlcbgklealipoaaGreatDoor
end

section
/- A batch's bytes, and what is read of bytes (plain). -/
namespace Go.Proofs.YtlcbgklealipoaaGreatDoor
open Go.RowKit
set_option linter.unusedVariables false
set_option linter.unusedSimpArgs false

def hasIn {α : Type} [DecidableEq α] (l : List α) (x : α) : Bool := l.any fun y => decide (y = x)
def idxIn {α : Type} [DecidableEq α] (l : List α) (x : α) : Nat := l.findIdx fun y => decide (y = x)
def addIn {α : Type} [DecidableEq α] (l : List α) (x : α) : List α := if hasIn l x then l else l ++ [x]
theorem hasIn_iff {α : Type} [DecidableEq α] {l : List α} {x : α} : hasIn l x = true ↔ x ∈ l := by
  unfold hasIn
  rw [List.any_eq_true]
  constructor
  · rintro ⟨y, hy, h⟩
    rw [← of_decide_eq_true h]; exact hy
  · exact fun h => ⟨x, h, by simp⟩
/-! ### reading -/
/-- A number of a table's things: not past the table, and not past those that were spoken of but the next one. -/
def tabC (len used : Nat) (n : Nat) : Option Int := if len ≤ n then some 55 else if used < n then some 54 else none
def namedT (T : List ByteArray) : Rdr ByteArray :=
  ((uintR.chk fun n s => tabC T.length s.tu n).upd fun n s s1 => if n = s.tu then { s1 with tu := s.tu + 1 } else s1).map fun n => T.getD n ⟨#[]⟩
def namedR (R : List (Nat × Nat)) : Rdr (Nat × Nat) :=
  ((uintR.chk fun n s => tabC R.length s.ru n).upd fun n s s1 => if n = s.ru then { s1 with ru := s.ru + 1 } else s1).map fun n => R.getD n (0, 0)
def longR : Rdr Nat := (bytesR 8).map of8
def byteR : Rdr Nat := (bytesR 1).map fun l => (l.headD 0).toNat
def smallR (most : Nat) : Rdr Nat := byteR.chk fun v _ => if most < v then some 55 else none
def countR (most : Nat) : Rdr Nat := uintR.chk fun n _ => if most < n then some 55 else none
def laterR (from_ : Int) : Rdr Int := (uintR.chk fun n _ => if 9223372036854775807 - from_ < n then some 55 else none).map fun n => from_ + n
def beginR : Rdr Int :=
  ((intR.chk fun d s => if s.st + d < -9223372036854775808 ∨ 9223372036854775807 < s.st + d then some 55 else none).upd fun d s s1 => { s1 with st := s.st + d }).mapS fun d s => s.st + d
/-- What a link is told by. -/
def lastL (l : List Nat) : Nat := l.getLast?.getD 0
def linkR (l : List Nat) : Rdr (List Nat) := (uintR.chk fun v _ => if 18446744073709551615 - lastL l < v then some 55 else none).map fun v => l ++ [v + lastL l]
def attrR (T : List ByteArray) : Rdr Atr := (namedT T).bind fun key => (smallR 2).bind fun k =>
  if k = 0 then (namedT T).map fun t => ⟨key, 0, t, 0⟩ else if k = 1 then intR.map fun i => ⟨key, 1, ⟨#[]⟩, i⟩ else (smallR 1).map fun v => ⟨key, 2, ⟨#[]⟩, v⟩
def attrsR (T : List ByteArray) (l : List Atr) : Rdr (List Atr) := (attrR T).map fun x => l ++ [x]
def eventR (T : List ByteArray) (p : Int × List Evt) : Rdr (Int × List Evt) := (laterR p.1).bind fun a => (namedT T).map fun n => (a, p.2 ++ [⟨a, n⟩])
/-- A span's fields. -/
def fieldsR (T : List ByteArray) (R : List (Nat × Nat)) : Rdr Spn :=
  (namedR R).bind fun tr => longR.bind fun id => longR.bind fun par => (namedT T).bind fun svc => (namedT T).bind fun op => byteR.bind fun k =>
  beginR.bind fun start => (laterR start).bind fun fin =>
  (countR 16).bind fun nl => (Rdr.loop linkR nl []).bind fun links =>
  (countR 32).bind fun na => (Rdr.loop (attrsR T) na []).bind fun ats =>
  (countR 32).bind fun ne => (Rdr.loop (eventR T) ne (0, [])).map fun ev =>
  ⟨tr.1, tr.2, id, par, links, svc, op, ((k % 8 : Nat) : Int), ((k / 8 : Nat) : Int), start, fin, ats, ev.2⟩
def spanR (T : List ByteArray) (R : List (Nat × Nat)) : Rdr Spn := (fieldsR T R).chk fun s _ => if checkS s = 0 then none else some (checkS s)
/-- A text of the table, with its place. -/
def textsR (l : List (ByteArray × Nat)) : Rdr (List (ByteArray × Nat)) := ((textRd 200).chk fun (x : ByteArray) _ => if hasIn (l.map Prod.fst) x then some 54 else none).mapS fun x s => l ++ [(x, s.n)]
def traceR : Rdr (Nat × Nat) := (bytesR 16).map fun l => (of8 (l.take 8), of8 (l.drop 8))
def tracesR (l : List ((Nat × Nat) × Nat)) : Rdr (List ((Nat × Nat) × Nat)) := (traceR.chk fun (x : Nat × Nat) _ => if hasIn (l.map Prod.fst) x then some 54 else none).mapS fun x s => l ++ [(x, s.n)]
def spansR (T : List ByteArray) (R : List (Nat × Nat)) (l : List Spn) : Rdr (List Spn) := (spanR T R).map fun x => l ++ [x]
def batchR : Rdr ((List (ByteArray × Nat) × List ((Nat × Nat) × Nat)) × List Spn) :=
  uintR.bind fun nt => (Rdr.loop textsR nt []).bind fun T => uintR.bind fun nr => (Rdr.loop tracesR nr []).bind fun R =>
  (uintR.chk fun n _ => if 500 < n then some 53 else none).bind fun n => (Rdr.loop (spansR (T.map Prod.fst) (R.map Prod.fst)) n []).map fun l => ((T, R), l)
inductive BatD where
  | ok (l : List Spn)
  | err (a no : Int)
/-- What Decode answers. -/
def decB (L : List Int) : BatD :=
  if 65536 < L.length then .err 0 51 else if ¬ (L.take 3 = [83, 66, 1]) then .err 0 52 else
  match batchR L ⟨3, 0, 0, 0⟩ with
  | .err a no => .err a no
  | .ok ((T, R), l) s =>
    match T[s.tu]? with
    | some x => .err x.2 54
    | none => match R[s.ru]? with
      | some x => .err x.2 54
      | none => if s.n < L.length then .err s.n 15 else .ok l

/-! ### writing -/
structure BW where
  tx : List ByteArray
  tr : List (Nat × Nat)
  st : Int
  out : List Int
def BW.put (b : BW) (l : List Int) : BW := { b with out := b.out ++ l }
def BW.text (b : BW) (x : ByteArray) : BW := { b with tx := addIn b.tx x, out := b.out ++ venc (idxIn b.tx x) }
def BW.trace (b : BW) (x : Nat × Nat) : BW := { b with tr := addIn b.tr x, out := b.out ++ venc (idxIn b.tr x) }
/-- Links, each told by the one ahead. -/
def linkB : Nat → List Nat → List Int
  | _, [] => []
  | p, x :: r => venc (x - p) ++ linkB x r
def BW.attr (b : BW) (a : Atr) : BW :=
  let c := (b.text a.key).put [a.k]
  if a.k = 0 then c.text a.t else if a.k = 1 then c.put (venc (zig a.i).toNat) else if a.k = 2 then c.put [a.i] else c
def BW.events (b : BW) : Int → List Evt → BW
  | _, [] => b
  | p, e :: r => BW.events ((b.put (venc (e.at_ - p).toNat)).text e.n) e.at_ r
def BW.span (b : BW) (s : Spn) : BW :=
  let b1 := (((((b.trace (s.hi, s.lo)).put (raw8 s.id)).put (raw8 s.par)).text s.svc).text s.op).put [s.kind + 8 * s.st]
  let b2 := { b1.put (venc (zig (s.start - b.st)).toNat) with st := s.start }
  let b3 := ((b2.put (venc (s.fin - s.start).toNat)).put (venc s.links.length)).put (linkB 0 s.links)
  let b4 := s.ats.foldl BW.attr (b3.put (venc s.ats.length))
  (b4.put (venc s.evs.length)).events 0 s.evs
def bodyB (l : List Spn) : BW := l.foldl BW.span ⟨[], [], 0, []⟩
def pairB (t : Nat × Nat) : List Int := raw8 t.1 ++ raw8 t.2
/-- A batch's bytes. -/
def encB (l : List Spn) : List Int :=
  let b := bodyB l
  [83, 66, 1] ++ (venc b.tx.length ++ (b.tx.flatMap txt ++ (venc b.tr.length ++ (b.tr.flatMap pairB ++ (venc l.length ++ b.out)))))
inductive BatE where
  | ok (l : List Int)
  | err (a no : Int)
/-- What Encode answers. -/
def encR (l : List Spn) : BatE :=
  if 500 < l.length then .err 500 53 else
  match l.findIdx? fun s => checkS s != 0 with
  | some i => .err i ((l[i]?.map checkS).getD 0)
  | none => if 65536 < (encB l).length then .err 0 51 else .ok (encB l)
end Go.Proofs.YtlcbgklealipoaaGreatDoor
end

section
/- What each of a batch's readers takes is what is written (plain). -/
namespace Go.Proofs.YtlcbgklealipoaaGreatDoor
open Go.RowKit
set_option linter.unusedVariables false
set_option linter.unusedSimpArgs false

section
variable {α β : Type}
theorem Exact.conv {f : Rdr α} {E E' : BSt → α → List Int → BSt → Prop} (hf : Exact f E) (h : ∀ s a l s', E s a l s' ↔ E' s a l s') : Exact f E' :=
  ⟨fun hb hn hr => by obtain ⟨h1, h2, h3⟩ := hf.form hb hn hr; exact ⟨h1, h2, (h _ _ _ _).1 h3⟩, fun he hd => hf.back ((h _ _ _ _).2 he) hd⟩
end
theorem tab_none {len used n : Nat} : tabC len used n = none ↔ n < len ∧ n ≤ used := by
  unfold tabC
  by_cases h1 : len ≤ n
  · rw [if_pos h1]; simp; omega
  · rw [if_neg h1]
    by_cases h2 : used < n
    · rw [if_pos h2]; simp; omega
    · rw [if_neg h2]; simp; omega
theorem tab_ne (len used n : Nat) : tabC len used n ≠ some 0 := by
  unfold tabC
  split
  · simp
  · split <;> simp
theorem some_ne {c : Prop} [Decidable c] {k : Int} (hk : k ≠ 0) : (if c then some k else none) ≠ some 0 := by
  split
  · intro h; injection h with h; exact hk h
  · simp
/-! ### every reader keeps to it -/
theorem namedT_good (T : List ByteArray) : Good (namedT T) := ((uint_good.chk _ fun a s => tab_ne _ _ _).upd _).map _
theorem namedR_good (R : List (Nat × Nat)) : Good (namedR R) := ((uint_good.chk _ fun a s => tab_ne _ _ _).upd _).map _
theorem long_good : Good longR := (bytesR_good 8).map _
theorem byte_good : Good byteR := (bytesR_good 1).map _
theorem small_good (most : Nat) : Good (smallR most) := byte_good.chk _ fun a s => some_ne (by decide)
theorem count_good (most : Nat) : Good (countR most) := uint_good.chk _ fun a s => some_ne (by decide)
theorem later_good (a : Int) : Good (laterR a) := (uint_good.chk _ fun a s => some_ne (by decide)).map _
theorem begin_good : Good beginR := ((int_good.chk _ fun a s => some_ne (by decide)).upd _).mapS _
theorem link_good (l : List Nat) : Good (linkR l) := (uint_good.chk _ fun a s => some_ne (by decide)).map _
theorem attr_good (T : List ByteArray) : Good (attrR T) := by
  refine (namedT_good T).bind fun key => (small_good 2).bind fun k => ?_
  split
  · exact (namedT_good T).map _
  · split
    · exact int_good.map _
    · exact (small_good 1).map _
theorem attrs_good (T : List ByteArray) (l : List Atr) : Good (attrsR T l) := (attr_good T).map _
theorem event_good (T : List ByteArray) (p : Int × List Evt) : Good (eventR T p) := (later_good p.1).bind fun a => (namedT_good T).map _
theorem fields_good (T : List ByteArray) (R : List (Nat × Nat)) : Good (fieldsR T R) :=
  (namedR_good R).bind fun tr => long_good.bind fun id => long_good.bind fun par => (namedT_good T).bind fun svc => (namedT_good T).bind fun op => byte_good.bind fun k =>
  begin_good.bind fun start => (later_good start).bind fun fin => (count_good 16).bind fun nl => (Good.loop link_good nl []).bind fun links =>
  (count_good 32).bind fun na => (Good.loop (attrs_good T) na []).bind fun ats => (count_good 32).bind fun ne => (Good.loop (event_good T) ne (0, [])).map _
theorem span_good (T : List ByteArray) (R : List (Nat × Nat)) : Good (spanR T R) := (fields_good T R).chk _ fun a s => by
  split
  · simp
  · rename_i h; intro e; injection e with e; exact h e
theorem texts_good (l : List (ByteArray × Nat)) : Good (textsR l) := ((textRd_good 200).chk _ fun a s => some_ne (by decide)).mapS _
theorem trace_good : Good traceR := (bytesR_good 16).map _
theorem traces_good (l : List ((Nat × Nat) × Nat)) : Good (tracesR l) := (trace_good.chk _ fun a s => some_ne (by decide)).mapS _
theorem spans_good (T : List ByteArray) (R : List (Nat × Nat)) (l : List Spn) : Good (spansR T R l) := (span_good T R).map _
theorem batch_good : Good batchR :=
  uint_good.bind fun nt => (Good.loop texts_good nt []).bind fun T => uint_good.bind fun nr => (Good.loop traces_good nr []).bind fun R =>
  (uint_good.chk _ fun a s => some_ne (by decide)).bind fun n => (Good.loop (spans_good _ _) n []).map _
/-! ### what is written -/
def namedE (T : List ByteArray) (s : BSt) (x : ByteArray) (l : List Int) (s' : BSt) : Prop :=
  ∃ n, n < 18446744073709551616 ∧ n ≤ s.tu ∧ T[n]? = some x ∧ l = venc n ∧ s' = { s with n := s.n + l.length, tu := if n = s.tu then s.tu + 1 else s.tu }
def namedRE (R : List (Nat × Nat)) (s : BSt) (x : Nat × Nat) (l : List Int) (s' : BSt) : Prop :=
  ∃ n, n < 18446744073709551616 ∧ n ≤ s.ru ∧ R[n]? = some x ∧ l = venc n ∧ s' = { s with n := s.n + l.length, ru := if n = s.ru then s.ru + 1 else s.ru }
theorem namedT_exact (T : List ByteArray) : Exact (namedT T) (namedE T) := by
  refine (((uint_exact.chk _).upd _).map _).conv fun s x l s' => ?_
  constructor
  · rintro ⟨n, rfl, s1, ⟨⟨h1, h2, h3⟩, h4⟩, rfl⟩
    have h5 := tab_none.1 h4
    refine ⟨n, h1, h5.2, ?_, h2, ?_⟩
    · rw [List.getElem?_eq_getElem h5.1, List.getD_eq_getElem?_getD, List.getElem?_eq_getElem h5.1]; rfl
    · subst h3
      by_cases e : n = s.tu
      · simp [e]
      · simp [e]
  · rintro ⟨n, h1, h2, h3, h4, rfl⟩
    refine ⟨n, by rw [List.getD_eq_getElem?_getD, h3]; rfl, { s with n := s.n + l.length }, ⟨⟨h1, h4, rfl⟩, tab_none.2 ⟨(List.getElem?_eq_some_iff.1 h3).1, h2⟩⟩, ?_⟩
    by_cases e : n = s.tu
    · simp [e]
    · simp [e]
theorem namedR_exact (R : List (Nat × Nat)) : Exact (namedR R) (namedRE R) := by
  refine (((uint_exact.chk _).upd _).map _).conv fun s x l s' => ?_
  constructor
  · rintro ⟨n, rfl, s1, ⟨⟨h1, h2, h3⟩, h4⟩, rfl⟩
    have h5 := tab_none.1 h4
    refine ⟨n, h1, h5.2, ?_, h2, ?_⟩
    · rw [List.getElem?_eq_getElem h5.1, List.getD_eq_getElem?_getD, List.getElem?_eq_getElem h5.1]; rfl
    · subst h3
      by_cases e : n = s.ru
      · simp [e]
      · simp [e]
  · rintro ⟨n, h1, h2, h3, h4, rfl⟩
    refine ⟨n, by rw [List.getD_eq_getElem?_getD, h3]; rfl, { s with n := s.n + l.length }, ⟨⟨h1, h4, rfl⟩, tab_none.2 ⟨(List.getElem?_eq_some_iff.1 h3).1, h2⟩⟩, ?_⟩
    by_cases e : n = s.ru
    · simp [e]
    · simp [e]
def longE (s : BSt) (x : Nat) (l : List Int) (s' : BSt) : Prop := x < 18446744073709551616 ∧ l = raw8 x ∧ s' = { s with n := s.n + l.length }
theorem long_exact : Exact longR longE := by
  refine ((bytes_exact 8).map _).conv fun s x l s' => ?_
  constructor
  · rintro ⟨q, rfl, h1, h2, h3, h4⟩
    have := raw8_of8 q h2 h1
    exact ⟨this.2, by rw [h3, this.1], h4⟩
  · rintro ⟨h1, rfl, h3⟩
    exact ⟨raw8 x, (of8_raw8 x h1).symm, raw8_len x, raw8_bytes x, rfl, h3⟩
def byteE (s : BSt) (x : Nat) (l : List Int) (s' : BSt) : Prop := x < 256 ∧ l = [(x : Int)] ∧ s' = { s with n := s.n + l.length }
theorem byte_exact : Exact byteR byteE := by
  refine ((bytes_exact 1).map _).conv fun s x l s' => ?_
  constructor
  · rintro ⟨q, rfl, h1, h2, h3, h4⟩
    obtain ⟨c, rfl⟩ : ∃ c, q = [c] := by
      match q, h1 with
      | [c], _ => exact ⟨c, rfl⟩
    have := h2 c (by simp)
    refine ⟨by simp; omega, ?_, h4⟩
    rw [h3]
    simp; omega
  · rintro ⟨h1, rfl, h3⟩
    exact ⟨[(x : Int)], by simp, rfl, (by intro y hy; simp at hy; omega), rfl, h3⟩
theorem if_none {c : Prop} [Decidable c] {k : Int} : (if c then some k else none) = none ↔ ¬ c := by split <;> simp_all
def smallE (most : Nat) (s : BSt) (x : Nat) (l : List Int) (s' : BSt) : Prop := x ≤ most ∧ byteE s x l s'
theorem small_exact (most : Nat) : Exact (smallR most) (smallE most) := (byte_exact.chk _).conv fun s x l s' => by
  rw [if_none]
  exact ⟨fun h => ⟨by omega, h.1⟩, fun h => ⟨h.2, by have := h.1; omega⟩⟩
def countE (most : Nat) (s : BSt) (x : Nat) (l : List Int) (s' : BSt) : Prop := x ≤ most ∧ uintE s x l s'
theorem count_exact (most : Nat) : Exact (countR most) (countE most) := (uint_exact.chk _).conv fun s x l s' => by
  rw [if_none]
  exact ⟨fun h => ⟨by omega, h.1⟩, fun h => ⟨h.2, by have := h.1; omega⟩⟩
def laterE (a : Int) (s : BSt) (x : Int) (l : List Int) (s' : BSt) : Prop := a ≤ x ∧ x ≤ 9223372036854775807 ∧ uintE s (x - a).toNat l s'
theorem later_exact (a : Int) : Exact (laterR a) (laterE a) := ((uint_exact.chk _).map _).conv fun s x l s' => by
  constructor
  · rintro ⟨n, rfl, h1, h2⟩
    rw [if_none] at h2
    exact ⟨by omega, by omega, by rw [show (a + (n : Int) - a).toNat = n by omega]; exact h1⟩
  · rintro ⟨h1, h2, h3⟩
    exact ⟨(x - a).toNat, by omega, h3, by rw [if_none]; omega⟩
def beginE (s : BSt) (x : Int) (l : List Int) (s' : BSt) : Prop :=
  (-9223372036854775808 ≤ x ∧ x ≤ 9223372036854775807) ∧ (-9223372036854775808 ≤ x - s.st ∧ x - s.st < 9223372036854775808) ∧ l = venc (zig (x - s.st)).toNat ∧ s' = { s with n := s.n + l.length, st := x }
theorem begin_exact : Exact beginR beginE := (((int_exact.chk _).upd _).mapS _).conv fun s x l s' => by
  constructor
  · rintro ⟨d, rfl, s1, ⟨⟨h1, h2, h3⟩, h4⟩, rfl⟩
    rw [if_none] at h4
    subst h3
    exact ⟨by omega, by rw [show s.st + d - s.st = d by omega]; exact h1, by rw [show s.st + d - s.st = d by omega]; exact h2, rfl⟩
  · rintro ⟨h1, h2, h3, rfl⟩
    refine ⟨x - s.st, by omega, { s with n := s.n + l.length }, ⟨⟨h2, h3, rfl⟩, by rw [if_none]; omega⟩, ?_⟩
    simp only
    rw [show s.st + (x - s.st) = x by omega]
def linkE (q : List Nat) (s : BSt) (r : List Nat) (l : List Int) (s' : BSt) : Prop := ∃ x, lastL q ≤ x ∧ x - lastL q ≤ 18446744073709551615 - lastL q ∧ r = q ++ [x] ∧ uintE s (x - lastL q) l s'
theorem link_exact (q : List Nat) : Exact (linkR q) (linkE q) := ((uint_exact.chk _).map _).conv fun s r l s' => by
  constructor
  · rintro ⟨n, rfl, h1, h2⟩
    rw [if_none] at h2
    have := h1.1
    exact ⟨n + lastL q, by omega, by omega, rfl, by rw [show n + lastL q - lastL q = n by omega]; exact h1⟩
  · rintro ⟨x, h1, h2, rfl, h3⟩
    exact ⟨x - lastL q, by rw [show x - lastL q + lastL q = x by omega], h3, by rw [if_none]; omega⟩
end Go.Proofs.YtlcbgklealipoaaGreatDoor
end

section
/- A batch's reader and its writer go side by side (plain). -/
namespace Go.Proofs.YtlcbgklealipoaaGreatDoor
open Go.RowKit
set_option linter.unusedVariables false
set_option linter.unusedSimpArgs false

theorem idx_mem {α : Type} [DecidableEq α] {l : List α} {x : α} (h : x ∈ l) : ∃ hk : idxIn l x < l.length, l[idxIn l x] = x := by
  have hk : idxIn l x < l.length := List.findIdx_lt_length_of_exists ⟨x, h, by simp⟩
  have := List.findIdx_getElem (w := hk)
  exact ⟨hk, of_decide_eq_true this⟩
theorem idx_none {α : Type} [DecidableEq α] {l : List α} {x : α} (h : x ∉ l) : idxIn l x = l.length := by
  unfold idxIn
  rw [List.findIdx_eq_length]
  intro y hy
  exact decide_eq_false fun e => h (e ▸ hy)
theorem add_mem {α : Type} [DecidableEq α] {l : List α} {x : α} (h : x ∈ l) : addIn l x = l := by
  unfold addIn; rw [if_pos (hasIn_iff.2 h)]
theorem add_none {α : Type} [DecidableEq α] {l : List α} {x : α} (h : x ∉ l) : addIn l x = l ++ [x] := by
  unfold addIn; rw [if_neg fun e => h (hasIn_iff.1 e)]
theorem add_pre {α : Type} [DecidableEq α] (l : List α) (x : α) : l <+: addIn l x := by
  by_cases h : x ∈ l
  · rw [add_mem h]; exact List.prefix_rfl
  · rw [add_none h]; exact List.prefix_append _ _
theorem idx_form {α : Type} [DecidableEq α] {l T : List α} {x : α} {n : Nat} (hp : l <+: T) (hd : T.Nodup) (hn : n ≤ l.length) (hx : T[n]? = some x) :
    idxIn l x = n ∧ addIn l x <+: T ∧ (addIn l x).length = if n = l.length then l.length + 1 else l.length := by
  obtain ⟨t, rfl⟩ := hp
  rw [List.nodup_append] at hd
  by_cases e : n = l.length
  · subst e
    rw [List.getElem?_append_right (Nat.le_refl _), Nat.sub_self] at hx
    obtain ⟨y, t', rfl⟩ : ∃ y t', t = y :: t' := by
      cases t with
      | nil => simp at hx
      | cons y t' => exact ⟨y, t', rfl⟩
    simp at hx
    subst hx
    have hm : y ∉ l := fun h => hd.2.2 y h y (by simp) rfl
    rw [idx_none hm, add_none hm, if_pos rfl]
    exact ⟨rfl, by rw [show y :: t' = [y] ++ t' from rfl, ← List.append_assoc]; exact List.prefix_append _ _, by simp⟩
  · have hlt : n < l.length := by omega
    rw [List.getElem?_append_left hlt, List.getElem?_eq_getElem hlt] at hx
    injection hx with hx
    have hm : x ∈ l := hx ▸ List.getElem_mem hlt
    obtain ⟨hk, he⟩ := idx_mem hm
    rw [add_mem hm, if_neg e]
    refine ⟨?_, List.prefix_append _ _, rfl⟩
    have hw := List.pairwise_iff_getElem.1 hd.1
    rcases Nat.lt_trichotomy (idxIn l x) n with h | h | h
    · exact absurd (he.trans hx.symm) (hw _ _ hk hlt h)
    · exact h
    · exact absurd (hx.trans he.symm) (hw _ _ hlt hk h)
theorem idx_back {α : Type} [DecidableEq α] {l T : List α} {x : α} (hp : addIn l x <+: T) :
    T[idxIn l x]? = some x ∧ idxIn l x ≤ l.length ∧ (addIn l x).length = if idxIn l x = l.length then l.length + 1 else l.length := by
  by_cases h : x ∈ l
  · rw [add_mem h] at hp ⊢
    obtain ⟨hk, he⟩ := idx_mem h
    obtain ⟨t, rfl⟩ := hp
    rw [List.getElem?_append_left hk, List.getElem?_eq_getElem hk, he, if_neg (by omega)]
    exact ⟨rfl, by omega, rfl⟩
  · rw [add_none h] at hp ⊢
    rw [idx_none h, if_pos rfl]
    obtain ⟨t, rfl⟩ := hp
    refine ⟨?_, Nat.le_refl _, by simp⟩
    rw [List.append_assoc, List.getElem?_append_right (Nat.le_refl _), Nat.sub_self]
    rfl
/-! ### side by side -/
/-- The reader stands where the writer does. -/
structure Sync (T : List ByteArray) (R : List (Nat × Nat)) (s : BSt) (b : BW) : Prop where
  tx : b.tx <+: T
  tu : s.tu = b.tx.length
  tr : b.tr <+: R
  ru : s.ru = b.tr.length
  st : s.st = b.st
structure Step (T : List ByteArray) (R : List (Nat × Nat)) (s : BSt) (b : BW) (l : List Int) (s' : BSt) (b' : BW) : Prop where
  out : b'.out = b.out ++ l
  n : s'.n = s.n + l.length
  sync : Sync T R s' b'
/-- Nothing but what is in the tables. -/
structure Within (T : List ByteArray) (R : List (Nat × Nat)) (b : BW) : Prop where
  tx : b.tx <+: T
  tr : b.tr <+: R
structure Grows (b b' : BW) : Prop where
  tx : b.tx <+: b'.tx
  tr : b.tr <+: b'.tr
section
variable {T : List ByteArray} {R : List (Nat × Nat)} {s s1 s' : BSt} {b b1 b' : BW} {l l1 l2 : List Int}
theorem Step.trans (h : Step T R s b l1 s1 b1) (h2 : Step T R s1 b1 l2 s' b') : Step T R s b (l1 ++ l2) s' b' :=
  ⟨by rw [h2.out, h.out, List.append_assoc], by rw [h2.n, h.n, List.length_append]; omega, h2.sync⟩
theorem Grows.rfl : Grows b b := ⟨List.prefix_rfl, List.prefix_rfl⟩
theorem Grows.trans (h : Grows b b1) (h2 : Grows b1 b') : Grows b b' := ⟨h.tx.trans h2.tx, h.tr.trans h2.tr⟩
theorem Within.of (h : Within T R b') (g : Grows b b') : Within T R b := ⟨g.tx.trans h.tx, g.tr.trans h.tr⟩
theorem text_grows (b : BW) (x : ByteArray) : Grows b (b.text x) := ⟨add_pre _ _, List.prefix_rfl⟩
theorem trace_grows (b : BW) (x : Nat × Nat) : Grows b (b.trace x) := ⟨List.prefix_rfl, add_pre _ _⟩
theorem put_grows (b : BW) (l : List Int) : Grows b (b.put l) := ⟨List.prefix_rfl, List.prefix_rfl⟩
theorem put_step (hs : Sync T R s b) : Step T R s b l { s with n := s.n + l.length } (b.put l) := ⟨rfl, rfl, hs.tx, hs.tu, hs.tr, hs.ru, hs.st⟩
theorem nil_step (hs : Sync T R s b) : Step T R s b [] s b := ⟨by simp, by simp, hs⟩
theorem text_form (hd : T.Nodup) (hs : Sync T R s b) {x : ByteArray} (h : namedE T s x l s') : Step T R s b l s' (b.text x) := by
  obtain ⟨n, h1, h2, h3, rfl, rfl⟩ := h
  obtain ⟨e1, e2, e3⟩ := idx_form hs.tx hd (by rw [← hs.tu]; exact h2) h3
  refine ⟨by simp only [BW.text, e1], rfl, e2, ?_, hs.tr, hs.ru, hs.st⟩
  simp only [BW.text]
  rw [e3, hs.tu]
theorem text_back (ht : T.length < 1000000000) (hs : Sync T R s b) {x : ByteArray} (hw : Within T R (b.text x)) : ∃ l s', namedE T s x l s' ∧ Step T R s b l s' (b.text x) := by
  obtain ⟨e1, e2, e3⟩ := idx_back hw.tx
  have := (List.getElem?_eq_some_iff.1 e1).1
  refine ⟨_, _, ⟨idxIn b.tx x, by omega, by rw [hs.tu]; exact e2, e1, rfl, rfl⟩, rfl, rfl, hw.tx, ?_, hs.tr, hs.ru, hs.st⟩
  simp only [BW.text]
  rw [e3, hs.tu]
theorem trace_form (hd : R.Nodup) (hs : Sync T R s b) {x : Nat × Nat} (h : namedRE R s x l s') : Step T R s b l s' (b.trace x) := by
  obtain ⟨n, h1, h2, h3, rfl, rfl⟩ := h
  obtain ⟨e1, e2, e3⟩ := idx_form hs.tr hd (by rw [← hs.ru]; exact h2) h3
  refine ⟨by simp only [BW.trace, e1], rfl, hs.tx, hs.tu, e2, ?_, hs.st⟩
  simp only [BW.trace]
  rw [e3, hs.ru]
theorem trace_back (ht : R.length < 1000000000) (hs : Sync T R s b) {x : Nat × Nat} (hw : Within T R (b.trace x)) : ∃ l s', namedRE R s x l s' ∧ Step T R s b l s' (b.trace x) := by
  obtain ⟨e1, e2, e3⟩ := idx_back hw.tr
  have := (List.getElem?_eq_some_iff.1 e1).1
  refine ⟨_, _, ⟨idxIn b.tr x, by omega, by rw [hs.ru]; exact e2, e1, rfl, rfl⟩, rfl, rfl, hs.tx, hs.tu, hw.tr, ?_, hs.st⟩
  simp only [BW.trace]
  rw [e3, hs.ru]
/-! ### lists -/
theorem snoc_ind {α : Type} {P : List α → Prop} (h0 : P []) (hs : ∀ q x, P q → P (q ++ [x])) : ∀ l, P l := fun l => by
  have : ∀ r : List α, P r.reverse := fun r => by
    induction r with
    | nil => exact h0
    | cons x t ih => rw [List.reverse_cons]; exact hs _ _ ih
  have := this l.reverse
  rwa [List.reverse_reverse] at this
/-- A list's things, one behind the other. -/
def SnocE {α : Type} (G : List α → BSt → α → List Int → BSt → Prop) (q : List α) (s : BSt) (r : List α) (l : List Int) (s' : BSt) : Prop := ∃ x, r = q ++ [x] ∧ G q s x l s'
theorem loop_form {α : Type} {G : List α → BSt → α → List Int → BSt → Prop} {W : List α → BW} {V : List α → Prop} (h0 : V [])
    (hstep : ∀ q s x l s', V q → Sync T R s (W q) → G q s x l s' → Step T R s (W q) l s' (W (q ++ [x])) ∧ V (q ++ [x]))
    (hs : Sync T R s (W [])) {k : Nat} {r : List α} {l : List Int} {s' : BSt} (h : LoopE (SnocE G) [] s k r l s') : r.length = k ∧ V r ∧ Step T R s (W []) l s' (W r) := by
  induction h with
  | zero => exact ⟨rfl, h0, nil_step hs⟩
  | succ h h2 ih =>
    obtain ⟨h3, h4, h5⟩ := ih
    obtain ⟨x, rfl, h6⟩ := h2
    obtain ⟨h7, h8⟩ := hstep _ _ _ _ _ h4 h5.sync h6
    exact ⟨by rw [List.length_append, h3]; rfl, h8, h5.trans h7⟩
theorem loop_back {α : Type} {G : List α → BSt → α → List Int → BSt → Prop} {W : List α → BW} {V : List α → Prop} (hv : ∀ q x, V (q ++ [x]) → V q)
    (hg : ∀ q x, Grows (W q) (W (q ++ [x])))
    (hstep : ∀ q s x, V (q ++ [x]) → Sync T R s (W q) → Within T R (W (q ++ [x])) → ∃ l s', G q s x l s' ∧ Step T R s (W q) l s' (W (q ++ [x])))
    (hs : Sync T R s (W [])) (r : List α) : V r → Within T R (W r) → ∃ l s', LoopE (SnocE G) [] s r.length r l s' ∧ Step T R s (W []) l s' (W r) := by
  refine snoc_ind (P := fun r => V r → Within T R (W r) → ∃ l s', LoopE (SnocE G) [] s r.length r l s' ∧ Step T R s (W []) l s' (W r)) ?_ ?_ r
  · exact fun _ _ => ⟨[], s, .zero, nil_step hs⟩
  · intro q x ih h1 h2
    obtain ⟨l1, s1, h3, h4⟩ := ih (hv _ _ h1) (h2.of (hg q x))
    obtain ⟨l2, s2, h5, h6⟩ := hstep _ _ _ h1 h4.sync h2
    exact ⟨l1 ++ l2, s2, by rw [List.length_append]; exact .succ h3 ⟨x, rfl, h5⟩, h4.trans h6⟩
end
end Go.Proofs.YtlcbgklealipoaaGreatDoor
end

section
/- A batch's attributes, links and events (plain). -/
namespace Go.Proofs.YtlcbgklealipoaaGreatDoor
open Go.RowKit
set_option linter.unusedVariables false
set_option linter.unusedSimpArgs false

/-! ### attributes -/
def valE (T : List ByteArray) (key : ByteArray) (k : Nat) (s : BSt) (a : Atr) (l : List Int) (s' : BSt) : Prop :=
  a.key = key ∧ ((k = 0 ∧ a.k = 0 ∧ a.i = 0 ∧ namedE T s a.t l s') ∨ (k = 1 ∧ a.k = 1 ∧ a.t = ⟨#[]⟩ ∧ intE s a.i l s') ∨ (k = 2 ∧ a.k = 2 ∧ a.t = ⟨#[]⟩ ∧ ∃ v : Nat, a.i = v ∧ smallE 1 s v l s'))
def attrE (T : List ByteArray) (s : BSt) (a : Atr) (l : List Int) (s' : BSt) : Prop :=
  ∃ l1 s1 l2 s2 l3, l = l1 ++ (l2 ++ l3) ∧ namedE T s a.key l1 s1 ∧ (∃ k, smallE 2 s1 k l2 s2 ∧ valE T a.key k s2 a l3 s')
theorem attr_exact (T : List ByteArray) : Exact (attrR T) (attrE T) := by
  have hv : ∀ key (k : Nat), Exact (if k = 0 then (namedT T).map fun t => (⟨key, 0, t, 0⟩ : Atr) else if k = 1 then intR.map fun i => ⟨key, 1, ⟨#[]⟩, i⟩ else (smallR 1).map fun v => ⟨key, 2, ⟨#[]⟩, v⟩)
      fun s a l s' => a.key = key ∧ ((k = 0 ∧ a.k = 0 ∧ a.i = 0 ∧ namedE T s a.t l s') ∨ (k = 1 ∧ a.k = 1 ∧ a.t = ⟨#[]⟩ ∧ intE s a.i l s') ∨ ((k ≠ 0 ∧ k ≠ 1) ∧ a.k = 2 ∧ a.t = ⟨#[]⟩ ∧ ∃ v : Nat, a.i = v ∧ smallE 1 s v l s')) := by
    intro key k
    split
    · refine ((namedT_exact T).map _).conv fun s a l s' => ?_
      constructor
      · rintro ⟨t, rfl, h⟩
        exact ⟨rfl, .inl ⟨by assumption, rfl, rfl, h⟩⟩
      · rintro ⟨rfl, ⟨_, h1, h2, h3⟩ | ⟨h0, _⟩ | ⟨h0, _⟩⟩
        · exact ⟨a.t, Atr.ext' rfl h1 rfl h2, h3⟩
        · omega
        · omega
    · split
      · refine (int_exact.map _).conv fun s a l s' => ?_
        constructor
        · rintro ⟨t, rfl, h⟩
          exact ⟨rfl, .inr (.inl ⟨by assumption, rfl, rfl, h⟩)⟩
        · rintro ⟨rfl, ⟨h0, _⟩ | ⟨_, h1, h2, h3⟩ | ⟨h0, _⟩⟩
          · omega
          · exact ⟨a.i, Atr.ext' rfl h1 h2 rfl, h3⟩
          · omega
      · refine ((small_exact 1).map _).conv fun s a l s' => ?_
        constructor
        · rintro ⟨v, rfl, h⟩
          exact ⟨rfl, .inr (.inr ⟨⟨by assumption, by assumption⟩, rfl, rfl, v, rfl, h⟩)⟩
        · rintro ⟨rfl, ⟨h0, _⟩ | ⟨h0, _⟩ | ⟨_, h1, h2, v, h3, h4⟩⟩
          · omega
          · omega
          · exact ⟨v, Atr.ext' rfl h1 h2 h3, h4⟩
  refine ((namedT_exact T).bind fun key => (small_exact 2).bind fun k => hv key k).conv fun s a l s' => ?_
  constructor
  · rintro ⟨key, l1, s1, l2, rfl, h1, k, l3, s3, l4, rfl, h2, rfl, h3⟩
    have := h2.1
    refine ⟨l1, s1, l3, s3, l4, rfl, h1, k, h2, rfl, ?_⟩
    rcases h3 with h3 | h3 | ⟨h3, h4⟩
    · exact .inl h3
    · exact .inr (.inl h3)
    · exact .inr (.inr ⟨by omega, h4⟩)
  · rintro ⟨l1, s1, l2, s2, l3, rfl, h1, k, h2, _, h3⟩
    refine ⟨a.key, l1, s1, _, rfl, h1, k, l2, s2, l3, rfl, h2, rfl, ?_⟩
    rcases h3 with h3 | h3 | ⟨h3, h4⟩
    · exact .inl h3
    · exact .inr (.inl h3)
    · exact .inr (.inr ⟨by omega, h4⟩)
section
variable {T : List ByteArray} {R : List (Nat × Nat)} {s s1 s' : BSt} {b b1 b' : BW} {l l1 l2 : List Int}
theorem byte_step (hs : Sync T R s b) {x : Nat} (h : byteE s x l s') : Step T R s b l s' (b.put [(x : Int)]) := by
  obtain ⟨_, rfl, rfl⟩ := h
  exact put_step hs
theorem uint_step (hs : Sync T R s b) {x : Nat} (h : uintE s x l s') : Step T R s b l s' (b.put (venc x)) := by
  obtain ⟨_, rfl, rfl⟩ := h
  exact put_step hs
theorem int_step (hs : Sync T R s b) {x : Int} (h : intE s x l s') : Step T R s b l s' (b.put (venc (zig x).toNat)) := by
  obtain ⟨_, rfl, rfl⟩ := h
  exact put_step hs
theorem long_step (hs : Sync T R s b) {x : Nat} (h : longE s x l s') : Step T R s b l s' (b.put (raw8 x)) := by
  obtain ⟨_, rfl, rfl⟩ := h
  exact put_step hs
theorem byte_of (s : BSt) {x : Nat} (h : x < 256) : ∃ l s', byteE s x l s' := ⟨_, _, h, rfl, rfl⟩
theorem uint_of (s : BSt) {x : Nat} (h : x < 18446744073709551616) : ∃ l s', uintE s x l s' := ⟨_, _, h, rfl, rfl⟩
theorem long_of (s : BSt) {x : Nat} (h : x < 18446744073709551616) : ∃ l s', longE s x l s' := ⟨_, _, h, rfl, rfl⟩
theorem int_of (s : BSt) {x : Int} (h : -9223372036854775808 ≤ x ∧ x < 9223372036854775808) : ∃ l s', intE s x l s' := ⟨_, _, h, rfl, rfl⟩
theorem attr_grows (b : BW) (a : Atr) : Grows b (b.attr a) := by
  have h := (text_grows b a.key).trans (put_grows _ [a.k])
  simp only [BW.attr]
  split
  · exact h.trans (text_grows _ _)
  · split
    · exact h.trans (put_grows _ _)
    · split
      · exact h.trans (put_grows _ _)
      · exact h
theorem attr_form (hd : T.Nodup) (hs : Sync T R s b) {a : Atr} (h : attrE T s a l s') : Step T R s b l s' (b.attr a) := by
  obtain ⟨l1, s1, l2, s2, l3, rfl, h1, k, h2, _, h3⟩ := h
  have e1 := text_form hd hs h1
  have e2 := byte_step e1.sync h2.2
  refine e1.trans ?_
  simp only [BW.attr]
  rcases h3 with ⟨rfl, h4, h5, h6⟩ | ⟨rfl, h4, h5, h6⟩ | ⟨rfl, h4, h5, v, h6, h7⟩
  · rw [h4, if_pos rfl]
    exact e2.trans (text_form hd e2.sync h6)
  · rw [h4, if_neg (by decide), if_pos rfl]
    exact e2.trans (int_step e2.sync h6)
  · rw [h4, if_neg (by decide), if_neg (by decide), if_pos rfl, h6]
    exact e2.trans (byte_step e2.sync h7.2)
theorem size_nil {x : ByteArray} (h : x.size = 0) : x = ⟨#[]⟩ := by
  cases x with
  | mk d => congr 1; exact Array.eq_empty_of_size_eq_zero h
theorem attr_back (ht : T.length < 1000000000) (hs : Sync T R s b) {a : Atr} (hv : valuedS a = true) (hi : -9223372036854775808 ≤ a.i ∧ a.i < 9223372036854775808) (hw : Within T R (b.attr a)) :
    ∃ l s', attrE T s a l s' ∧ Step T R s b l s' (b.attr a) := by
  have hp := (text_grows b a.key).trans (put_grows _ [a.k])
  unfold valuedS at hv
  by_cases h0 : a.k = 0
  · rw [if_pos h0] at hv
    simp only [Bool.and_eq_true, decide_eq_true_eq] at hv
    have e : b.attr a = ((b.text a.key).put [a.k]).text a.t := by simp only [BW.attr]; rw [if_pos h0]
    rw [e] at hw ⊢
    have hg := text_grows ((b.text a.key).put [a.k]) a.t
    obtain ⟨l1, s1, h1, e1⟩ := text_back ht hs ((hw.of hg).of (put_grows _ _))
    obtain ⟨l2, s2, h2⟩ := byte_of s1 (x := 0) (by omega)
    have e2 := byte_step e1.sync h2
    rw [show ((0 : Nat) : Int) = a.k by omega] at e2
    obtain ⟨l3, s3, h3, e3⟩ := text_back ht e2.sync hw
    exact ⟨_, _, ⟨l1, s1, l2, s2, l3, rfl, h1, 0, ⟨by omega, h2⟩, rfl, .inl ⟨rfl, h0, hv.1, h3⟩⟩, e1.trans (e2.trans e3)⟩
  · rw [if_neg h0] at hv
    by_cases h1' : a.k = 1
    · rw [if_pos h1'] at hv
      simp only [decide_eq_true_eq] at hv
      have e : b.attr a = ((b.text a.key).put [a.k]).put (venc (zig a.i).toNat) := by simp only [BW.attr]; rw [if_neg h0, if_pos h1']
      rw [e] at hw ⊢
      obtain ⟨l1, s1, h1, e1⟩ := text_back ht hs ((hw.of (put_grows _ _)).of (put_grows _ _))
      obtain ⟨l2, s2, h2⟩ := byte_of s1 (x := 1) (by omega)
      have e2 := byte_step e1.sync h2
      rw [show ((1 : Nat) : Int) = a.k by omega] at e2
      obtain ⟨l3, s3, h3⟩ := int_of s2 hi
      exact ⟨_, _, ⟨l1, s1, l2, s2, l3, rfl, h1, 1, ⟨by omega, h2⟩, rfl, .inr (.inl ⟨rfl, h1', size_nil hv, h3⟩)⟩, e1.trans (e2.trans (int_step e2.sync h3))⟩
    · rw [if_neg h1'] at hv
      by_cases h2' : a.k = 2
      · rw [if_pos h2'] at hv
        simp only [Bool.and_eq_true, decide_eq_true_eq] at hv
        have e : b.attr a = ((b.text a.key).put [a.k]).put [a.i] := by simp only [BW.attr]; rw [if_neg h0, if_neg h1', if_pos h2']
        rw [e] at hw ⊢
        obtain ⟨l1, s1, h1, e1⟩ := text_back ht hs ((hw.of (put_grows _ _)).of (put_grows _ _))
        obtain ⟨l2, s2, h2⟩ := byte_of s1 (x := 2) (by omega)
        have e2 := byte_step e1.sync h2
        rw [show ((2 : Nat) : Int) = a.k by omega] at e2
        obtain ⟨l3, s3, h3⟩ := byte_of s2 (x := a.i.toNat) (by omega)
        have e3 := byte_step e2.sync h3
        rw [show ((a.i.toNat : Nat) : Int) = a.i by omega] at e3
        exact ⟨_, _, ⟨l1, s1, l2, s2, l3, rfl, h1, 2, ⟨by omega, h2⟩, rfl, .inr (.inr ⟨rfl, h2', size_nil hv.1, a.i.toNat, by omega, by omega, h3⟩)⟩, e1.trans (e2.trans e3)⟩
      · rw [if_neg h2'] at hv; cases hv
end
theorem attrs_exact (T : List ByteArray) (q : List Atr) : Exact (attrsR T q) (SnocE (fun _ => attrE T) q) := (attr_exact T).map _
/-! ### links -/
def linkG (q : List Nat) (s : BSt) (x : Nat) (l : List Int) (s' : BSt) : Prop := lastL q ≤ x ∧ x - lastL q ≤ 18446744073709551615 - lastL q ∧ uintE s (x - lastL q) l s'
theorem links_exact (q : List Nat) : Exact (linkR q) (SnocE linkG q) := (link_exact q).conv fun s r l s' => by
  constructor
  · rintro ⟨x, h1, h2, h3, h4⟩
    exact ⟨x, h3, h1, h2, h4⟩
  · rintro ⟨x, h3, h1, h2, h4⟩
    exact ⟨x, h1, h2, h3, h4⟩
theorem linkB_snoc : ∀ (q : List Nat) (p x : Nat), linkB p (q ++ [x]) = linkB p q ++ venc (x - q.getLast?.getD p)
  | [], p, x => by simp [linkB]
  | y :: q, p, x => by
    rw [List.cons_append, linkB, linkB, linkB_snoc q y x, List.append_assoc]
    congr 3
    cases q with
    | nil => simp
    | cons z q => simp [List.getLast?_cons]
/-! ### events -/
def lastA (q : List Evt) : Int := (q.getLast?.map Evt.at_).getD 0
def eventE (T : List ByteArray) (p : Int × List Evt) (s : BSt) (r : Int × List Evt) (l : List Int) (s' : BSt) : Prop :=
  ∃ a n l1 s1 l2, r = (a, p.2 ++ [⟨a, n⟩]) ∧ l = l1 ++ l2 ∧ laterE p.1 s a l1 s1 ∧ namedE T s1 n l2 s'
theorem event_exact (T : List ByteArray) (p : Int × List Evt) : Exact (eventR T p) (eventE T p) := by
  refine ((later_exact p.1).bind fun a => (namedT_exact T).map fun n => (a, p.2 ++ [⟨a, n⟩])).conv fun s r l s' => ?_
  constructor
  · rintro ⟨a, l1, s1, l2, rfl, h1, n, rfl, h2⟩
    exact ⟨a, n, l1, s1, l2, rfl, rfl, h1, h2⟩
  · rintro ⟨a, n, l1, s1, l2, rfl, rfl, h1, h2⟩
    exact ⟨a, l1, s1, l2, rfl, h1, n, rfl, h2⟩
def eventG (T : List ByteArray) (q : List Evt) (s : BSt) (e : Evt) (l : List Int) (s' : BSt) : Prop :=
  ∃ l1 s1 l2, l = l1 ++ l2 ∧ laterE (lastA q) s e.at_ l1 s1 ∧ namedE T s1 e.n l2 s'
theorem lastA_snoc (q : List Evt) (e : Evt) : lastA (q ++ [e]) = e.at_ := by simp [lastA]
theorem event_to {T : List ByteArray} {s s' : BSt} {k : Nat} {p : Int × List Evt} {l : List Int} (h : LoopE (eventE T) (0, []) s k p l s') : p.1 = lastA p.2 ∧ LoopE (SnocE (eventG T)) [] s k p.2 l s' := by
  induction h with
  | zero => exact ⟨rfl, .zero⟩
  | succ h h2 ih =>
    obtain ⟨a, n, l1, s1, l2, rfl, rfl, h3, h4⟩ := h2
    refine ⟨by rw [lastA_snoc], .succ ih.2 ⟨⟨a, n⟩, rfl, l1, s1, l2, rfl, ?_, h4⟩⟩
    rw [← ih.1]; exact h3
theorem event_from {T : List ByteArray} {s s' : BSt} {k : Nat} {q : List Evt} {l : List Int} (h : LoopE (SnocE (eventG T)) [] s k q l s') : LoopE (eventE T) (0, []) s k (lastA q, q) l s' := by
  induction h with
  | zero => exact .zero
  | succ h h2 ih =>
    obtain ⟨e, rfl, l1, s1, l2, rfl, h3, h4⟩ := h2
    exact .succ ih ⟨e.at_, e.n, l1, s1, l2, by rw [lastA_snoc], rfl, h3, h4⟩
theorem events_snoc : ∀ (q : List Evt) (b : BW) (p : Int) (e : Evt), b.events p (q ++ [e]) = ((b.events p q).put (venc (e.at_ - (q.getLast?.map Evt.at_).getD p).toNat)).text e.n
  | [], b, p, e => by simp [BW.events]
  | y :: q, b, p, e => by
    rw [List.cons_append, BW.events, BW.events, events_snoc q]
    congr 4
    cases q with
    | nil => simp
    | cons z q => simp [List.getLast?_cons]
end Go.Proofs.YtlcbgklealipoaaGreatDoor
end

section
/- A batch's span: reader and writer (plain). -/
namespace Go.Proofs.YtlcbgklealipoaaGreatDoor
open Go.RowKit
set_option linter.unusedVariables false
set_option linter.unusedSimpArgs false

section
variable {T : List ByteArray} {R : List (Nat × Nat)} {s s1 s' : BSt} {b b1 b' : BW} {l l1 l2 : List Int}
/-- Of every thing of a list, with what stands ahead of it. -/
def Each {α : Type} (ok : List α → α → Prop) (r : List α) : Prop := ∀ q x t, r = q ++ x :: t → ok q x
theorem Each.front {α : Type} {ok : List α → α → Prop} {q : List α} {x : α} (h : Each ok (q ++ [x])) : Each ok q := fun q' y t e => h q' y (t ++ [x]) (by rw [e]; simp)
theorem Each.last {α : Type} {ok : List α → α → Prop} {q : List α} {x : α} (h : Each ok (q ++ [x])) : ok q x := h q x [] rfl
theorem nil_put (hs : Sync T R s b) : Sync T R s (b.put []) := ⟨hs.tx, hs.tu, hs.tr, hs.ru, hs.st⟩
theorem of_nil (h : Step T R s (b.put []) l s' b') : Step T R s b l s' b' := ⟨by rw [h.out]; simp [BW.put], h.n, h.sync⟩
theorem put_put (b : BW) (x y : List Int) : (b.put x).put y = b.put (x ++ y) := by simp [BW.put]
theorem links_form (hs : Sync T R s b) {k : Nat} {r : List Nat} (h : LoopE (SnocE linkG) [] s k r l s') : r.length = k ∧ Step T R s b l s' (b.put (linkB 0 r)) := by
  obtain ⟨h1, _, h2⟩ := loop_form (T := T) (R := R) (W := fun q => b.put (linkB 0 q)) (V := fun _ => True) trivial (fun q s x l s' _ hs hg => ⟨by
    have := uint_step hs hg.2.2
    rw [put_put] at this
    rw [linkB_snoc]
    exact this, trivial⟩) (nil_put hs) h
  exact ⟨h1, of_nil h2⟩
theorem links_back (hs : Sync T R s b) {r : List Nat} (hv : Each (fun q x => lastL q ≤ x ∧ x < 18446744073709551616) r) (hw : Within T R b) :
    ∃ l s', LoopE (SnocE linkG) [] s r.length r l s' ∧ Step T R s b l s' (b.put (linkB 0 r)) := by
  obtain ⟨l, s', h1, h2⟩ := loop_back (T := T) (R := R) (s := s) (G := linkG) (W := fun q => b.put (linkB 0 q)) (V := Each (fun q x => lastL q ≤ x ∧ x < 18446744073709551616)) (fun q x h => h.front)
    (fun q x => ⟨List.prefix_rfl, List.prefix_rfl⟩) (fun q s x h hs _ => by
    have h1 := h.last
    obtain ⟨l, s', h2⟩ := uint_of s (x := x - lastL q) (by omega)
    refine ⟨l, s', ⟨h1.1, by omega, h2⟩, ?_⟩
    have := uint_step hs h2
    rw [put_put] at this
    rw [linkB_snoc]
    exact this) (nil_put hs) r hv ⟨hw.tx, hw.tr⟩
  exact ⟨l, s', h1, of_nil h2⟩
theorem foldl_snoc (b : BW) (q : List Atr) (a : Atr) : (q ++ [a]).foldl BW.attr b = (q.foldl BW.attr b).attr a := by rw [List.foldl_append]; rfl
theorem attrs_grow : ∀ (q : List Atr) (b : BW), Grows b (q.foldl BW.attr b)
  | [], b => Grows.rfl
  | a :: q, b => (attr_grows b a).trans (attrs_grow q (b.attr a))
theorem attrs_form (hd : T.Nodup) (hs : Sync T R s b) {k : Nat} {r : List Atr} (h : LoopE (SnocE fun _ => attrE T) [] s k r l s') : r.length = k ∧ Step T R s b l s' (r.foldl BW.attr b) := by
  obtain ⟨h1, _, h2⟩ := loop_form (T := T) (R := R) (W := fun q => q.foldl BW.attr b) (V := fun _ => True) trivial (fun q s x l s' _ hs hg => ⟨by
    rw [foldl_snoc]
    exact attr_form hd hs hg, trivial⟩) hs h
  exact ⟨h1, h2⟩
theorem attrs_back (ht : T.length < 1000000000) (hs : Sync T R s b) {r : List Atr} (hv : Each (fun _ a => valuedS a = true ∧ -9223372036854775808 ≤ a.i ∧ a.i < 9223372036854775808) r) (hw : Within T R (r.foldl BW.attr b)) :
    ∃ l s', LoopE (SnocE fun _ => attrE T) [] s r.length r l s' ∧ Step T R s b l s' (r.foldl BW.attr b) :=
  loop_back (T := T) (R := R) (s := s) (G := fun _ => attrE T) (W := fun q => q.foldl BW.attr b) (V := Each (fun _ a => valuedS a = true ∧ -9223372036854775808 ≤ a.i ∧ a.i < 9223372036854775808)) (fun q x h => h.front)
    (fun q x => by rw [foldl_snoc]; exact attr_grows _ _) (fun q s x h hs hw => by
    rw [foldl_snoc] at hw ⊢
    exact attr_back ht hs h.last.1 h.last.2 hw) hs r hv hw
theorem events_grow : ∀ (q : List Evt) (b : BW) (p : Int), Grows b (b.events p q)
  | [], b, p => Grows.rfl
  | e :: q, b, p => ((put_grows b _).trans (text_grows _ _)).trans (events_grow q _ _)
theorem later_step (hs : Sync T R s b) {a x : Int} (h : laterE a s x l s') : Step T R s b l s' (b.put (venc (x - a).toNat)) := uint_step hs h.2.2
theorem later_of (s : BSt) {a x : Int} (h : a ≤ x ∧ x ≤ 9223372036854775807) (ha : -9223372036854775808 ≤ a) : ∃ l s', laterE a s x l s' := by
  obtain ⟨l, s', h1⟩ := uint_of s (x := (x - a).toNat) (by omega)
  exact ⟨l, s', h.1, h.2, h1⟩
theorem events_form (hd : T.Nodup) (hs : Sync T R s b) {k : Nat} {r : List Evt} (h : LoopE (SnocE (eventG T)) [] s k r l s') : r.length = k ∧ Step T R s b l s' (b.events 0 r) := by
  obtain ⟨h1, _, h2⟩ := loop_form (T := T) (R := R) (W := fun q => b.events 0 q) (V := fun _ => True) trivial (fun q s x l s' _ hs hg => ⟨by
    rw [events_snoc]
    obtain ⟨l1, s1, l2, rfl, h1, h2⟩ := hg
    have e1 := later_step hs h1
    exact e1.trans (text_form hd e1.sync h2), trivial⟩) hs h
  exact ⟨h1, h2⟩
theorem events_back (ht : T.length < 1000000000) (hs : Sync T R s b) {r : List Evt} (hv : Each (fun q (e : Evt) => (lastA q ≤ e.at_ ∧ e.at_ ≤ 9223372036854775807) ∧ -9223372036854775808 ≤ lastA q) r) (hw : Within T R (b.events 0 r)) :
    ∃ l s', LoopE (SnocE (eventG T)) [] s r.length r l s' ∧ Step T R s b l s' (b.events 0 r) :=
  loop_back (T := T) (R := R) (s := s) (G := eventG T) (W := fun q => b.events 0 q) (V := Each (fun q (e : Evt) => (lastA q ≤ e.at_ ∧ e.at_ ≤ 9223372036854775807) ∧ -9223372036854775808 ≤ lastA q)) (fun q x h => h.front)
    (fun q x => by rw [events_snoc]; exact (put_grows _ _).trans (text_grows _ _)) (fun q s x h hs hw => by
    rw [events_snoc] at hw ⊢
    obtain ⟨l1, s1, h1⟩ := later_of s h.last.1 h.last.2
    have e1 := later_step hs h1
    obtain ⟨l2, s2, h2, e2⟩ := text_back ht e1.sync hw
    exact ⟨_, _, ⟨l1, s1, l2, rfl, h1, h2⟩, e1.trans e2⟩) hs r hv hw
/-! ### a span -/
theorem begin_step (hs : Sync T R s b) {x : Int} (h : beginE s x l s') : Step T R s b l s' { b.put (venc (zig (x - b.st)).toNat) with st := x } := by
  obtain ⟨_, _, rfl, rfl⟩ := h
  rw [hs.st]
  exact ⟨rfl, rfl, hs.tx, hs.tu, hs.tr, hs.ru, rfl⟩
theorem begin_of (hs : Sync T R s b) {x : Int} (h : 0 ≤ x ∧ x ≤ 4611686018427387904) (hb : 0 ≤ b.st ∧ b.st ≤ 4611686018427387904) : ∃ l s', beginE s x l s' := by
  have := hs.st
  exact ⟨_, _, by omega, by omega, rfl, rfl⟩
def fieldsE (T : List ByteArray) (R : List (Nat × Nat)) (s : BSt) (x : Spn) (l : List Int) (s' : BSt) : Prop :=
  ∃ tr l1 s1 r1, l = l1 ++ r1 ∧ namedRE R s tr l1 s1 ∧
  ∃ id l2 s2 r2, r1 = l2 ++ r2 ∧ longE s1 id l2 s2 ∧
  ∃ par l3 s3 r3, r2 = l3 ++ r3 ∧ longE s2 par l3 s3 ∧
  ∃ svc l4 s4 r4, r3 = l4 ++ r4 ∧ namedE T s3 svc l4 s4 ∧
  ∃ op l5 s5 r5, r4 = l5 ++ r5 ∧ namedE T s4 op l5 s5 ∧
  ∃ k l6 s6 r6, r5 = l6 ++ r6 ∧ byteE s5 k l6 s6 ∧
  ∃ start l7 s7 r7, r6 = l7 ++ r7 ∧ beginE s6 start l7 s7 ∧
  ∃ fin l8 s8 r8, r7 = l8 ++ r8 ∧ laterE start s7 fin l8 s8 ∧
  ∃ nl l9 s9 r9, r8 = l9 ++ r9 ∧ countE 16 s8 nl l9 s9 ∧
  ∃ links l10 s10 r10, r9 = l10 ++ r10 ∧ LoopE (SnocE linkG) [] s9 nl links l10 s10 ∧
  ∃ na l11 s11 r11, r10 = l11 ++ r11 ∧ countE 32 s10 na l11 s11 ∧
  ∃ ats l12 s12 r12, r11 = l12 ++ r12 ∧ LoopE (SnocE fun _ => attrE T) [] s11 na ats l12 s12 ∧
  ∃ ne l13 s13 r13, r12 = l13 ++ r13 ∧ countE 32 s12 ne l13 s13 ∧
  ∃ ev, x = ⟨tr.1, tr.2, id, par, links, svc, op, ((k % 8 : Nat) : Int), ((k / 8 : Nat) : Int), start, fin, ats, ev.2⟩ ∧ LoopE (eventE T) (0, []) s13 ne ev r13 s'
theorem fields_exact (T : List ByteArray) (R : List (Nat × Nat)) : Exact (fieldsR T R) (fieldsE T R) :=
  (namedR_exact R).bind fun tr => long_exact.bind fun id => long_exact.bind fun par => (namedT_exact T).bind fun svc => (namedT_exact T).bind fun op => byte_exact.bind fun k =>
  begin_exact.bind fun start => (later_exact start).bind fun fin => (count_exact 16).bind fun nl => (Exact.loop links_exact nl []).bind fun links =>
  (count_exact 32).bind fun na => (Exact.loop (attrs_exact T) na []).bind fun ats => (count_exact 32).bind fun ne => (Exact.loop (event_exact T) ne (0, [])).map _
theorem fields_form (hd : T.Nodup) (hr : R.Nodup) (hs : Sync T R s b) {x : Spn} (h : fieldsE T R s x l s') : Step T R s b l s' (b.span x) := by
  obtain ⟨tr, l1, s1, r1, rfl, h1, id, l2, s2, r2, rfl, h2, par, l3, s3, r3, rfl, h3, svc, l4, s4, r4, rfl, h4, op, l5, s5, r5, rfl, h5, k, l6, s6, r6, rfl, h6,
    start, l7, s7, r7, rfl, h7, fin, l8, s8, r8, rfl, h8, nl, l9, s9, r9, rfl, h9, links, l10, s10, r10, rfl, h10, na, l11, s11, r11, rfl, h11, ats, l12, s12, r12, rfl, h12,
    ne, l13, s13, r13, rfl, h13, ev, rfl, h14⟩ := h
  have e1 := trace_form hr hs h1
  have e2 := long_step e1.sync h2
  have e3 := long_step e2.sync h3
  have e4 := text_form hd e3.sync h4
  have e5 := text_form hd e4.sync h5
  have e6 := byte_step e5.sync h6
  have hk : (k : Int) = ((k % 8 : Nat) : Int) + 8 * ((k / 8 : Nat) : Int) := by omega
  rw [hk] at e6
  have e7 := begin_step e6.sync h7
  have e8 := later_step e7.sync h8
  have e9 := uint_step e8.sync h9.2
  obtain ⟨rfl, e10⟩ := links_form e9.sync h10
  have e11 := uint_step e10.sync h11.2
  obtain ⟨rfl, e12⟩ := attrs_form hd e11.sync h12
  have e13 := uint_step e12.sync h13.2
  obtain ⟨rfl, e14⟩ := events_form hd e13.sync (event_to h14).2
  exact e1.trans (e2.trans (e3.trans (e4.trans (e5.trans (e6.trans (e7.trans (e8.trans (e9.trans (e10.trans (e11.trans (e12.trans (e13.trans e14))))))))))))
end
end Go.Proofs.YtlcbgklealipoaaGreatDoor
end

section
/- A batch's span: what is written is read (plain). -/
namespace Go.Proofs.YtlcbgklealipoaaGreatDoor
open Go.RowKit
set_option linter.unusedVariables false
set_option linter.unusedSimpArgs false

theorem rises_each : ∀ (q : List Nat) (id p x : Nat) (t : List Nat), risesS id p (q ++ x :: t) = true → q.getLast?.getD p ≤ x
  | [], id, p, x, t, h => by
    simp only [List.nil_append, risesS, Bool.and_eq_true, decide_eq_true_eq] at h
    simp; omega
  | y :: q, id, p, x, t, h => by
    simp only [List.cons_append, risesS, Bool.and_eq_true] at h
    have := rises_each q id y x t h.2
    cases q with
    | nil => simpa using this
    | cons z q => simpa [List.getLast?_cons] using this
theorem tells_each : ∀ (q : List Evt) (p : Option Evt) (x : Evt) (t : List Evt), tellsS p (q ++ x :: t) = true → ((q.getLast?.or p).map Evt.at_).getD 0 ≤ x.at_
  | [], p, x, t, h => by
    simp only [List.nil_append, tellsS, Bool.and_eq_true, decide_eq_true_eq] at h
    cases p with
    | none => simpa using h.1.1.1.1
    | some y =>
      have h2 := h.1.2
      simp only [decide_eq_true_eq] at h2
      simp only [evtC, orFirst] at h2
      simp
      unfold Lib.compareInt at h2
      by_cases e : x.at_ < y.at_
      · exfalso
        rw [if_neg (by omega)] at h2
        split at h2 <;> simp_all <;> omega
      · omega
  | y :: q, p, x, t, h => by
    simp only [List.cons_append, tellsS, Bool.and_eq_true] at h
    have := tells_each q (some y) x t h.2
    cases q with
    | nil => simpa using this
    | cons z q => simpa [List.getLast?_cons] using this
/-- What stands ahead of a checked span's things. -/
structure Rows (x : Spn) : Prop where
  links : Each (fun q v => lastL q ≤ v ∧ v < 18446744073709551616) x.links
  ats : Each (fun _ (a : Atr) => valuedS a = true ∧ -9223372036854775808 ≤ a.i ∧ a.i < 9223372036854775808) x.ats
  evs : Each (fun q (e : Evt) => (lastA q ≤ e.at_ ∧ e.at_ ≤ 9223372036854775807) ∧ -9223372036854775808 ≤ lastA q) x.evs
theorem check_rows {x : Spn} (h : checkS x = 0) : risesS x.id 0 x.links = true ∧ tellsS none x.evs = true := by
  unfold checkS at h
  by_cases h1 : (x.hi = 0 ∧ x.lo = 0) ∨ x.id = 0
  · rw [if_pos h1] at h; omega
  · rw [if_neg h1] at h
    by_cases h2 : x.start < 0 ∨ x.fin < x.start ∨ 4611686018427387904 < x.fin
    · rw [if_pos h2] at h; omega
    · rw [if_neg h2] at h
      by_cases h3 : plainS x.svc 60 33 = false ∨ plainS x.op 100 32 = false
      · rw [if_pos h3] at h; omega
      · rw [if_neg h3] at h
        by_cases h4 : x.kind < 0 ∨ 4 < x.kind ∨ x.st < 0 ∨ 2 < x.st
        · rw [if_pos h4] at h; omega
        · rw [if_neg h4] at h
          by_cases h5 : linkedS x = false
          · rw [if_pos h5] at h; omega
          · rw [if_neg h5] at h
            by_cases h6 : carriedS x.ats = false
            · rw [if_pos h6] at h; omega
            · rw [if_neg h6] at h
              by_cases h7 : toldS x.evs = false
              · rw [if_pos h7] at h; omega
              · simp only [Bool.not_eq_false] at h5 h6 h7
                simp only [linkedS, toldS, Bool.and_eq_true] at h5 h7
                exact ⟨h5.1, h7.1⟩
theorem rows_of {x : Spn} (h : checkS x = 0) (hr : Fits x) : Rows x := by
  have hf := fine_of h
  obtain ⟨c1, c2⟩ := check_rows h
  refine ⟨fun q v t e => ⟨?_, hr.links v (by rw [e]; simp)⟩, fun q a t e => ?_, fun q v t e => ⟨⟨?_, ?_⟩, ?_⟩⟩
  · rw [e] at c1
    exact rises_each q _ 0 v t c1
  · have hm : a ∈ x.ats := by rw [e]; simp
    exact ⟨(hf.ats.2 a hm).2, (hr.ats a hm).2⟩
  · rw [e] at c2
    have := tells_each q none v t c2
    rw [Option.or_none] at this
    exact this
  · have := hf.evs.2 v (by rw [e]; simp)
    omega
  · unfold lastA
    cases hq : q.getLast? with
    | none => simp
    | some y =>
      have hy : y ∈ x.evs := by rw [e]; exact List.mem_append_left _ (List.mem_of_getLast? hq)
      have := hf.evs.2 y hy
      simp; omega
section
theorem Sync.within {T : List ByteArray} {R : List (Nat × Nat)} {s : BSt} {b : BW} (h : Sync T R s b) : Within T R b := ⟨h.tx, h.tr⟩
variable {T : List ByteArray} {R : List (Nat × Nat)} {s s1 s' : BSt} {b b1 b' : BW} {l l1 l2 : List Int}
def BW.p1 (b : BW) (x : Spn) : BW := b.trace (x.hi, x.lo)
def BW.p2 (b : BW) (x : Spn) : BW := ((b.p1 x).put (raw8 x.id)).put (raw8 x.par)
def BW.p3 (b : BW) (x : Spn) : BW := (b.p2 x).text x.svc
def BW.p4 (b : BW) (x : Spn) : BW := (b.p3 x).text x.op
def BW.p5 (b : BW) (x : Spn) : BW := { ((b.p4 x).put [x.kind + 8 * x.st]).put (venc (zig (x.start - b.st)).toNat) with st := x.start }
def BW.p6 (b : BW) (x : Spn) : BW := (((b.p5 x).put (venc (x.fin - x.start).toNat)).put (venc x.links.length)).put (linkB 0 x.links)
def BW.p7 (b : BW) (x : Spn) : BW := x.ats.foldl BW.attr ((b.p6 x).put (venc x.ats.length))
theorem span_eq (b : BW) (x : Spn) : b.span x = ((b.p7 x).put (venc x.evs.length)).events 0 x.evs := rfl
theorem span_grows (b : BW) (x : Spn) : Grows b (b.span x) := by
  have g1 : Grows b (b.p1 x) := trace_grows _ _
  have g2 : Grows b (b.p2 x) := (g1.trans (put_grows _ _)).trans (put_grows _ _)
  have g3 : Grows b (b.p3 x) := g2.trans (text_grows _ _)
  have g4 : Grows b (b.p4 x) := g3.trans (text_grows _ _)
  have g5 : Grows b (b.p5 x) := ⟨g4.tx, g4.tr⟩
  have g6 : Grows b (b.p6 x) := ⟨g5.tx, g5.tr⟩
  have g7 : Grows b (b.p7 x) := ⟨(show Grows b ((b.p6 x).put _) from ⟨g6.tx, g6.tr⟩).tx.trans (attrs_grow _ _).tx, (show Grows b ((b.p6 x).put _) from ⟨g6.tx, g6.tr⟩).tr.trans (attrs_grow _ _).tr⟩
  rw [span_eq]
  exact (g7.trans (put_grows _ _)).trans (events_grow _ _ _)
theorem events_st : ∀ (q : List Evt) (b : BW) (p : Int), (b.events p q).st = b.st
  | [], b, p => rfl
  | e :: q, b, p => events_st q _ _
theorem attr_st (b : BW) (a : Atr) : (b.attr a).st = b.st := by
  simp only [BW.attr]
  split
  · rfl
  · split
    · rfl
    · split <;> rfl
theorem attrs_st : ∀ (q : List Atr) (b : BW), (q.foldl BW.attr b).st = b.st
  | [], b => rfl
  | a :: q, b => (attrs_st q (b.attr a)).trans (attr_st b a)
theorem span_st (b : BW) (x : Spn) : (b.span x).st = x.start := by
  rw [span_eq, events_st]
  show (b.p7 x).st = x.start
  unfold BW.p7
  rw [attrs_st]
  rfl
theorem fields_back (ht : T.length < 1000000000) (hl : R.length < 1000000000) (hs : Sync T R s b) {x : Spn} (hf : Fine x) (hr : Fits x) (hv : Rows x) (hb : 0 ≤ b.st ∧ b.st ≤ 4611686018427387904)
    (hw : Within T R (b.span x)) : ∃ l s', fieldsE T R s x l s' ∧ Step T R s b l s' (b.span x) := by
  have w8 : Within T R (((b.p7 x).put (venc x.evs.length)).events 0 x.evs) := hw
  have w7' : Within T R ((b.p7 x).put (venc x.evs.length)) := w8.of (events_grow _ _ _)
  have w7 : Within T R (b.p7 x) := ⟨w7'.tx, w7'.tr⟩
  have w6' : Within T R ((b.p6 x).put (venc x.ats.length)) := w7.of (attrs_grow _ _)
  have w5 : Within T R (b.p5 x) := ⟨w6'.tx, w6'.tr⟩
  have w4 : Within T R (b.p4 x) := ⟨w6'.tx, w6'.tr⟩
  have w3 : Within T R (b.p3 x) := w4.of (text_grows _ _)
  have w2 : Within T R (b.p2 x) := w3.of (text_grows _ _)
  have w1 : Within T R (b.p1 x) := ⟨w2.tx, w2.tr⟩
  obtain ⟨l1, s1, h1, e1⟩ := trace_back hl hs (x := (x.hi, x.lo)) w1
  obtain ⟨l2, s2, h2⟩ := long_of s1 hr.id
  have e2 := long_step e1.sync h2
  obtain ⟨l3, s3, h3⟩ := long_of s2 hr.par
  have e3 := long_step e2.sync h3
  obtain ⟨l4, s4, h4, e4⟩ := text_back ht e3.sync (x := x.svc) w3
  obtain ⟨l5, s5, h5, e5⟩ := text_back ht e4.sync (x := x.op) w4
  have hk := hf.kind
  have hst := hf.st
  obtain ⟨k, ek⟩ : ∃ k : Nat, (k : Int) = x.kind + 8 * x.st := ⟨(x.kind + 8 * x.st).toNat, by omega⟩
  obtain ⟨l6, s6, h6⟩ := byte_of s5 (x := k) (by omega)
  have e6 := byte_step e5.sync h6
  rw [ek] at e6
  have hstart := hf.start
  obtain ⟨l7, s7, h7⟩ := begin_of e6.sync (x := x.start) (by omega) hb
  have e7 := begin_step e6.sync h7
  obtain ⟨l8, s8, h8⟩ := later_of s7 (a := x.start) (x := x.fin) (by omega) (by omega)
  have e8 := later_step e7.sync h8
  have hnl := hf.links
  obtain ⟨l9, s9, h9⟩ := uint_of s8 (x := x.links.length) (by omega)
  have e9 := uint_step e8.sync h9
  obtain ⟨l10, s10, h10, e10⟩ := links_back e9.sync hv.links e9.sync.within
  have hna := hf.ats.1
  obtain ⟨l11, s11, h11⟩ := uint_of s10 (x := x.ats.length) (by omega)
  have e11 := uint_step e10.sync h11
  obtain ⟨l12, s12, h12, e12⟩ := attrs_back ht e11.sync hv.ats w7
  have hne := hf.evs.1
  obtain ⟨l13, s13, h13⟩ := uint_of s12 (x := x.evs.length) (by omega)
  have e13 := uint_step e12.sync h13
  obtain ⟨l14, s14, h14, e14⟩ := events_back ht e13.sync hv.evs w8
  refine ⟨_, s14, ⟨(x.hi, x.lo), l1, s1, _, rfl, h1, x.id, l2, s2, _, rfl, h2, x.par, l3, s3, _, rfl, h3, x.svc, l4, s4, _, rfl, h4, x.op, l5, s5, _, rfl, h5, k, l6, s6, _, rfl, h6,
    x.start, l7, s7, _, rfl, h7, x.fin, l8, s8, _, rfl, h8, x.links.length, l9, s9, _, rfl, ⟨by omega, h9⟩, x.links, l10, s10, _, rfl, h10, x.ats.length, l11, s11, _, rfl, ⟨by omega, h11⟩, x.ats, l12, s12, _, rfl, h12,
    x.evs.length, l13, s13, l14, rfl, ⟨by omega, h13⟩, (lastA x.evs, x.evs), ?_, event_from h14⟩,
    e1.trans (e2.trans (e3.trans (e4.trans (e5.trans (e6.trans (e7.trans (e8.trans (e9.trans (e10.trans (e11.trans (e12.trans (e13.trans e14))))))))))))⟩
  exact Spn.ext' rfl rfl rfl rfl rfl rfl rfl (by simp only; omega) (by simp only; omega) rfl rfl rfl rfl
end
end Go.Proofs.YtlcbgklealipoaaGreatDoor
end

section
/- A batch's tables; the whole batch, there and back (plain). -/
namespace Go.Proofs.YtlcbgklealipoaaGreatDoor
open Go.RowKit
set_option linter.unusedVariables false
set_option linter.unusedSimpArgs false

/-! ### tables -/
def okT (x : ByteArray) : Prop := x.size ≤ 200 ∧ badR (octs x) = none
def okP (p : Nat × Nat) : Prop := p.1 < 18446744073709551616 ∧ p.2 < 18446744073709551616
/-- A table's thing, with where it ends. -/
def tabE {α : Type} [DecidableEq α] (ok : α → Prop) (enc : α → List Int) (q : List (α × Nat)) (s : BSt) (r : List (α × Nat)) (l : List Int) (s' : BSt) : Prop :=
  ∃ x, r = q ++ [(x, s.n)] ∧ ok x ∧ hasIn (q.map Prod.fst) x = false ∧ l = enc x ∧ s' = { s with n := s.n + l.length }
theorem texts_exact (q : List (ByteArray × Nat)) : Exact (textsR q) (tabE okT txt q) := (((text_exact 200 (by decide)).chk _).mapS _).conv fun s r l s' => by
  constructor
  · rintro ⟨x, rfl, ⟨h1, h2, h3, h4⟩, h5⟩
    rw [if_none] at h5
    exact ⟨x, rfl, ⟨h1, h2⟩, by simpa using h5, h3, h4⟩
  · rintro ⟨x, rfl, ⟨h1, h2⟩, h5, h3, h4⟩
    exact ⟨x, rfl, ⟨h1, h2, h3, h4⟩, by rw [if_none, h5]; decide⟩
def traceE (s : BSt) (x : Nat × Nat) (l : List Int) (s' : BSt) : Prop := okP x ∧ l = pairB x ∧ s' = { s with n := s.n + l.length }
theorem trace_exact : Exact traceR traceE := by
  refine ((bytes_exact 16).map _).conv fun s x l s' => ?_
  constructor
  · rintro ⟨q, rfl, h1, h2, h3, h4⟩
    have a1 := raw8_of8 (q.take 8) (fun y hy => h2 y (List.mem_of_mem_take hy)) (by rw [List.length_take]; omega)
    have a2 := raw8_of8 (q.drop 8) (fun y hy => h2 y (List.mem_of_mem_drop hy)) (by rw [List.length_drop]; omega)
    refine ⟨⟨a1.2, a2.2⟩, ?_, h4⟩
    rw [h3, pairB, a1.1, a2.1, List.take_append_drop]
  · rintro ⟨⟨h1, h2⟩, rfl, h3⟩
    refine ⟨pairB x, ?_, ?_, ?_, rfl, h3⟩
    · unfold pairB
      rw [List.take_left' (raw8_len _), List.drop_left' (raw8_len _), of8_raw8 _ h1, of8_raw8 _ h2]
    · unfold pairB; rw [List.length_append, raw8_len, raw8_len]
    · intro y hy
      rcases List.mem_append.1 hy with h | h
      · exact raw8_bytes _ y h
      · exact raw8_bytes _ y h
theorem traces_exact (q : List ((Nat × Nat) × Nat)) : Exact (tracesR q) (tabE okP pairB q) := ((trace_exact.chk _).mapS _).conv fun s r l s' => by
  constructor
  · rintro ⟨x, rfl, ⟨h1, h3, h4⟩, h5⟩
    rw [if_none] at h5
    exact ⟨x, rfl, h1, by simpa using h5, h3, h4⟩
  · rintro ⟨x, rfl, h1, h5, h3, h4⟩
    exact ⟨x, rfl, ⟨h1, h3, h4⟩, by rw [if_none, h5]; decide⟩
theorem hasIn_not {α : Type} [DecidableEq α] {l : List α} {x : α} : hasIn l x = false ↔ x ∉ l := by
  rw [← hasIn_iff]; simp
theorem nodup_snoc {α : Type} {l : List α} {x : α} (h : l.Nodup) (hx : x ∉ l) : (l ++ [x]).Nodup := by
  rw [List.nodup_append]
  refine ⟨h, by simp, fun a ha c hc e => ?_⟩
  rw [List.mem_singleton] at hc
  exact hx (hc ▸ e ▸ ha)
theorem tab_form {α : Type} [DecidableEq α] {ok : α → Prop} {enc : α → List Int} {s s' : BSt} {k : Nat} {r : List (α × Nat)} {l : List Int} (h : LoopE (tabE ok enc) [] s k r l s') :
    r.length = k ∧ (r.map Prod.fst).Nodup ∧ l = (r.map Prod.fst).flatMap enc ∧ s' = { s with n := s.n + l.length } ∧ (∀ e ∈ r, e.2 ≤ s'.n) := by
  induction h with
  | zero => exact ⟨rfl, .nil, rfl, rfl, fun e he => by cases he⟩
  | succ h h2 ih =>
    obtain ⟨h3, h4, h5, h6, h7⟩ := ih
    obtain ⟨x, rfl, h8, h9, h10, h11⟩ := h2
    subst h6
    refine ⟨by rw [List.length_append, h3]; rfl, ?_, ?_, ?_, ?_⟩
    · rw [List.map_append]
      exact nodup_snoc h4 (hasIn_not.1 h9)
    · rw [List.map_append, List.flatMap_append, ← h5, h10]
      simp
    · rw [h11, List.length_append]
      simp only [Nat.add_assoc]
    · rw [h11]
      intro e he
      rcases List.mem_append.1 he with he | he
      · have := h7 e he
        simp only at this ⊢
        omega
      · rw [List.mem_singleton] at he
        rw [he]
        simp only
        omega
theorem tab_back {α : Type} [DecidableEq α] {ok : α → Prop} {enc : α → List Int} (s : BSt) (q : List α) : q.Nodup → (∀ x ∈ q, ok x) →
    ∃ r, r.map Prod.fst = q ∧ LoopE (tabE ok enc) [] s q.length r (q.flatMap enc) { s with n := s.n + (q.flatMap enc).length } := by
  refine snoc_ind (P := fun q => q.Nodup → (∀ x ∈ q, ok x) → ∃ r, r.map Prod.fst = q ∧ LoopE (tabE ok enc) [] s q.length r (q.flatMap enc) { s with n := s.n + (q.flatMap enc).length }) ?_ ?_ q
  · exact fun _ _ => ⟨[], rfl, .zero⟩
  · intro q x ih h1 h2
    rw [List.nodup_append] at h1
    obtain ⟨r, h3, h4⟩ := ih h1.1 (fun y hy => h2 y (List.mem_append_left _ hy))
    have hx : x ∉ q := fun h => h1.2.2 x h x (by simp) rfl
    refine ⟨r ++ [(x, s.n + (q.flatMap enc).length)], by rw [List.map_append, h3]; rfl, ?_⟩
    rw [List.length_append, List.flatMap_append, List.flatMap_singleton]
    refine .succ h4 ⟨x, rfl, h2 x (by simp), by rw [h3]; exact hasIn_not.2 hx, rfl, ?_⟩
    rw [List.length_append]
    simp only [Nat.add_assoc]
/-! ### spans -/
def spanE (T : List ByteArray) (R : List (Nat × Nat)) (s : BSt) (x : Spn) (l : List Int) (s' : BSt) : Prop := fieldsE T R s x l s' ∧ checkS x = 0
theorem span_exact (T : List ByteArray) (R : List (Nat × Nat)) : Exact (spanR T R) (spanE T R) := ((fields_exact T R).chk _).conv fun s x l s' => by
  have : (if checkS x = 0 then none else some (checkS x)) = none ↔ checkS x = 0 := by split <;> simp_all
  rw [this]
  exact Iff.rfl
theorem spans_exact (T : List ByteArray) (R : List (Nat × Nat)) (q : List Spn) : Exact (spansR T R q) (SnocE (fun _ => spanE T R) q) := (span_exact T R).map _
section
variable {T : List ByteArray} {R : List (Nat × Nat)} {s s1 s' : BSt} {b b1 b' : BW} {l l1 l2 : List Int}
theorem foldl_span (b : BW) (q : List Spn) (a : Spn) : (q ++ [a]).foldl BW.span b = (q.foldl BW.span b).span a := by rw [List.foldl_append]; rfl
theorem spans_grow : ∀ (q : List Spn) (b : BW), Grows b (q.foldl BW.span b)
  | [], b => Grows.rfl
  | a :: q, b => (span_grows b a).trans (spans_grow q (b.span a))
theorem spans_form (hd : T.Nodup) (hr : R.Nodup) (hs : Sync T R s b) {k : Nat} {r : List Spn} (h : LoopE (SnocE fun _ => spanE T R) [] s k r l s') :
    r.length = k ∧ (∀ x ∈ r, checkS x = 0) ∧ Step T R s b l s' (r.foldl BW.span b) :=
  loop_form (T := T) (R := R) (W := fun q => q.foldl BW.span b) (V := fun q => ∀ x ∈ q, checkS x = 0) (fun x hx => by cases hx) (fun q s x l s' hv hs hg => ⟨by
    rw [foldl_span]
    exact fields_form hd hr hs hg.1, fun y hy => by
    rcases List.mem_append.1 hy with hy | hy
    · exact hv y hy
    · rw [List.mem_singleton] at hy
      rw [hy]; exact hg.2⟩) hs h
theorem spans_st (q : List Spn) (b : BW) (hb : 0 ≤ b.st ∧ b.st ≤ 4611686018427387904) : (∀ x ∈ q, checkS x = 0) → 0 ≤ (q.foldl BW.span b).st ∧ (q.foldl BW.span b).st ≤ 4611686018427387904 := by
  refine snoc_ind (P := fun q => (∀ x ∈ q, checkS x = 0) → 0 ≤ (q.foldl BW.span b).st ∧ (q.foldl BW.span b).st ≤ 4611686018427387904) (fun _ => hb) (fun q x _ h => ?_) q
  rw [foldl_span, span_st]
  have := (fine_of (h x (by simp))).start
  omega
theorem spans_back (ht : T.length < 1000000000) (hl : R.length < 1000000000) (hs : Sync T R s b) (hb : 0 ≤ b.st ∧ b.st ≤ 4611686018427387904) {r : List Spn} (hv : ∀ x ∈ r, checkS x = 0 ∧ Fits x) (hw : Within T R (r.foldl BW.span b)) :
    ∃ l s', LoopE (SnocE fun _ => spanE T R) [] s r.length r l s' ∧ Step T R s b l s' (r.foldl BW.span b) :=
  loop_back (T := T) (R := R) (s := s) (G := fun _ => spanE T R) (W := fun q => q.foldl BW.span b) (V := fun q => ∀ x ∈ q, checkS x = 0 ∧ Fits x) (fun q x h y hy => h y (List.mem_append_left _ hy))
    (fun q x => by rw [foldl_span]; exact span_grows _ _) (fun q s x h hs hw => by
    rw [foldl_span] at hw ⊢
    have hx := h x (by simp)
    obtain ⟨l, s', h1, h2⟩ := fields_back ht hl hs (fine_of hx.1) hx.2 (rows_of hx.1 hx.2) (spans_st q b hb fun y hy => (h y (List.mem_append_left _ hy)).1) hw
    exact ⟨l, s', ⟨h1, hx.1⟩, h2⟩) hs r hv hw
end
/-! ### what the tables of a writer hold -/
structure Tab (b : BW) : Prop where
  tx : b.tx.Nodup
  tr : b.tr.Nodup
  ok : ∀ x ∈ b.tx, okT x
  okp : ∀ p ∈ b.tr, okP p
theorem add_nodup {α : Type} [DecidableEq α] {l : List α} (x : α) (h : l.Nodup) : (addIn l x).Nodup := by
  by_cases hx : x ∈ l
  · rw [add_mem hx]; exact h
  · rw [add_none hx]; exact nodup_snoc h hx
theorem add_all {α : Type} [DecidableEq α] {l : List α} {x : α} {P : α → Prop} (h : ∀ y ∈ l, P y) (hx : P x) : ∀ y ∈ addIn l x, P y := by
  by_cases hm : x ∈ l
  · rw [add_mem hm]; exact h
  · rw [add_none hm]
    intro y hy
    rcases List.mem_append.1 hy with hy | hy
    · exact h y hy
    · rw [List.mem_singleton] at hy; rw [hy]; exact hx
theorem Tab.text {b : BW} (h : Tab b) {x : ByteArray} (hx : okT x) : Tab (b.text x) := ⟨add_nodup _ h.tx, h.tr, add_all h.ok hx, h.okp⟩
theorem Tab.trace {b : BW} (h : Tab b) {x : Nat × Nat} (hx : okP x) : Tab (b.trace x) := ⟨h.tx, add_nodup _ h.tr, h.ok, add_all h.okp hx⟩
theorem Tab.put {b : BW} (h : Tab b) (l : List Int) : Tab (b.put l) := ⟨h.tx, h.tr, h.ok, h.okp⟩
theorem okT_of {x : ByteArray} (h1 : x.size ≤ 200) (h2 : Lib.validD x.data.toList = true) : okT x := ⟨h1, badR_runes (valid_runes' x h2)⟩
theorem Tab.attr {b : BW} (h : Tab b) {a : Atr} (h1 : keyedS a.key = true) (h2 : valuedS a = true) : Tab (b.attr a) := by
  have hk := keyed_size h1
  have ha := valued_ok h2
  have t := (h.text (okT_of (x := a.key) (by omega) hk.2.2)).put [a.k]
  simp only [BW.attr]
  split
  · exact t.text (okT_of ha.2.2.1 ha.2.2.2)
  · split
    · exact t.put _
    · split
      · exact t.put _
      · exact t
theorem Tab.attrs : ∀ (q : List Atr) {b : BW}, Tab b → (∀ a ∈ q, keyedS a.key = true ∧ valuedS a = true) → Tab (q.foldl BW.attr b)
  | [], b, h, _ => h
  | a :: q, b, h, hq => Tab.attrs q (h.attr (hq a (by simp)).1 (hq a (by simp)).2) fun c hc => hq c (by simp [hc])
theorem Tab.events : ∀ (q : List Evt) {b : BW} (p : Int), Tab b → (∀ e ∈ q, okT e.n) → Tab (b.events p q)
  | [], b, p, h, _ => h
  | e :: q, b, p, h, hq => Tab.events q _ ((h.put _).text (hq e (by simp))) fun c hc => hq c (by simp [hc])
theorem Tab.span {b : BW} (h : Tab b) {x : Spn} (hf : Fine x) (hr : Fits x) : Tab (b.span x) := by
  have hsv := plain_size hf.svc
  have hop := plain_size hf.op
  have t1 : Tab (b.p1 x) := h.trace ⟨hr.hi, hr.lo⟩
  have t2 : Tab (b.p2 x) := (t1.put _).put _
  have t3 : Tab (b.p3 x) := t2.text (okT_of (x := x.svc) (by omega) hsv.2.2)
  have t4 : Tab (b.p4 x) := t3.text (okT_of (x := x.op) (by omega) hop.2.2)
  have t5 : Tab (b.p5 x) := ⟨t4.tx, t4.tr, t4.ok, t4.okp⟩
  have t6 : Tab (b.p6 x) := ((t5.put _).put _).put _
  have t7 : Tab (b.p7 x) := Tab.attrs _ (t6.put _) hf.ats.2
  rw [span_eq]
  refine Tab.events _ _ (t7.put _) fun e he => ?_
  have := plain_size (hf.evs.2 e he).2.2
  exact okT_of (by omega) this.2.2
theorem Tab.body (l : List Spn) (h : ∀ x ∈ l, checkS x = 0 ∧ Fits x) : Tab (bodyB l) := by
  have : ∀ (l : List Spn) (b : BW), Tab b → (∀ x ∈ l, checkS x = 0 ∧ Fits x) → Tab (l.foldl BW.span b) := by
    intro l
    induction l with
    | nil => exact fun b h _ => h
    | cons x t ih => exact fun b hb hq => ih _ (hb.span (fine_of (hq x (by simp)).1) (hq x (by simp)).2) fun y hy => hq y (by simp [hy])
  exact this l _ ⟨List.nodup_nil, List.nodup_nil, (fun x hx => by cases hx), (fun x hx => by cases hx)⟩ h
end Go.Proofs.YtlcbgklealipoaaGreatDoor
end

section
/- A whole batch, there and back (plain). -/
namespace Go.Proofs.YtlcbgklealipoaaGreatDoor
open Go.RowKit
set_option linter.unusedVariables false
set_option linter.unusedSimpArgs false

def batchE (s : BSt) (x : (List (ByteArray × Nat) × List ((Nat × Nat) × Nat)) × List Spn) (l : List Int) (s' : BSt) : Prop :=
  ∃ nt l1 s1 r1, l = l1 ++ r1 ∧ uintE s nt l1 s1 ∧
  ∃ T l2 s2 r2, r1 = l2 ++ r2 ∧ LoopE (tabE okT txt) [] s1 nt T l2 s2 ∧
  ∃ nr l3 s3 r3, r2 = l3 ++ r3 ∧ uintE s2 nr l3 s3 ∧
  ∃ R l4 s4 r4, r3 = l4 ++ r4 ∧ LoopE (tabE okP pairB) [] s3 nr R l4 s4 ∧
  ∃ n l5 s5 r5, r4 = l5 ++ r5 ∧ (uintE s4 n l5 s5 ∧ (if 500 < n then some (53 : Int) else none) = none) ∧
  ∃ y, x = ((T, R), y) ∧ LoopE (SnocE fun _ => spanE (T.map Prod.fst) (R.map Prod.fst)) [] s5 n y r5 s'
theorem batch_exact : Exact batchR batchE :=
  uint_exact.bind fun nt => (Exact.loop texts_exact nt []).bind fun T => uint_exact.bind fun nr => (Exact.loop traces_exact nr []).bind fun R =>
  (uint_exact.chk _).bind fun n => (Exact.loop (spans_exact _ _) n []).map _
theorem batch_of {s s' : BSt} {T : List (ByteArray × Nat)} {R : List ((Nat × Nat) × Nat)} {y : List Spn} {l : List Int} (h0 : s.tu = 0 ∧ s.ru = 0 ∧ s.st = 0) (h : batchE s ((T, R), y) l s') :
    y.length ≤ 500 ∧ (∀ x ∈ y, checkS x = 0) ∧ s'.n = s.n + l.length ∧ (∀ e ∈ T, e.2 ≤ s'.n) ∧ (∀ e ∈ R, e.2 ≤ s'.n) ∧
    l = venc T.length ++ ((T.map Prod.fst).flatMap txt ++ (venc R.length ++ ((R.map Prod.fst).flatMap pairB ++ (venc y.length ++ (bodyB y).out)))) ∧
    Sync (T.map Prod.fst) (R.map Prod.fst) s' (bodyB y) := by
  obtain ⟨nt, l1, s1, r1, rfl, h1, T', l2, s2, r2, rfl, h2, nr, l3, s3, r3, rfl, h3, R', l4, s4, r4, rfl, h4, n, l5, s5, r5, rfl, ⟨h5, h6⟩, y', e, h7⟩ := h
  injection e with e1 e2
  injection e1 with e1 e3
  subst e1 e2 e3
  obtain ⟨t1, t2, t3, t4, t5⟩ := tab_form h2
  obtain ⟨q1, q2, q3, q4, q5⟩ := tab_form h4
  rw [if_none] at h6
  obtain ⟨_, a2, a3⟩ := h1
  obtain ⟨_, b2, b3⟩ := h3
  obtain ⟨_, c2, c3⟩ := h5
  have hs : Sync (T.map Prod.fst) (R.map Prod.fst) s5 ⟨[], [], 0, []⟩ := by
    subst c3 q4 b3 t4 a3
    exact ⟨List.nil_prefix, h0.1, List.nil_prefix, h0.2.1, h0.2.2⟩
  obtain ⟨g1, g2, g3⟩ := spans_form t2 q2 hs h7
  have ho : r5 = (bodyB y).out := by
    have := g3.out
    rw [List.nil_append] at this
    exact this.symm
  have hn := g3.n
  have n1 : s1.n = s.n + l1.length := by rw [a3]
  have n2 : s2.n = s1.n + l2.length := by rw [t4]
  have n3 : s3.n = s2.n + l3.length := by rw [b3]
  have n4 : s4.n = s3.n + l4.length := by rw [q4]
  have n5 : s5.n = s4.n + l5.length := by rw [c3]
  refine ⟨by omega, g2, by simp only [List.length_append]; omega, fun e he => ?_, fun e he => ?_, ?_, g3.sync⟩
  · have := t5 e he; omega
  · have := q5 e he; omega
  · rw [a2, t3, b2, q3, c2, ho, t1, q1, g1]
theorem pre_eq {α : Type} {l T : List α} (h : l <+: T) (hn : T[l.length]? = none) : l = T := by
  rw [List.getElem?_eq_none_iff] at hn
  exact h.eq_of_length_le hn
variable {L : List Int}
/-- What is read is what is written. -/
theorem decB_form (hb : Bytes L) {l : List Spn} (h : decB L = .ok l) : L.length ≤ 65536 ∧ l.length ≤ 500 ∧ (∀ x ∈ l, checkS x = 0) ∧ encB l = L := by
  unfold decB at h
  split at h
  · cases h
  · split at h
    · cases h
    · rename_i h1 h2
      have h2 : L.take 3 = [83, 66, 1] := Decidable.not_not.1 h2
      have h3 : 3 ≤ L.length := by
        have := congrArg List.length h2
        rw [List.length_take] at this
        simp at this; omega
      split at h
      · cases h
      · rename_i T R y s e
        split at h
        · cases h
        · rename_i hT
          split at h
          · cases h
          · rename_i hR
            split at h
            · cases h
            · rename_i hn
              injection h with h
              subst h
              obtain ⟨_, m1, m2⟩ := batch_exact.form hb (s := ⟨3, 0, 0, 0⟩) h3 e
              obtain ⟨c1, c2, c3, _, _, c4, c5⟩ := batch_of (s := ⟨3, 0, 0, 0⟩) ⟨rfl, rfl, rfl⟩ m2
              have hx := pre_eq c5.tx (by rw [← c5.tu, List.getElem?_map, hT]; rfl)
              have hy := pre_eq c5.tr (by rw [← c5.ru, List.getElem?_map, hR]; rfl)
              refine ⟨by omega, c1, c2, ?_⟩
              have hs : seg L 3 s.n = L.drop 3 := by
                unfold seg
                rw [List.take_of_length_le (by rw [List.length_drop]; omega)]
              change seg L 3 s.n = _ at c4
              rw [hs] at c4
              rw [← List.take_append_drop 3 L, h2, c4]
              unfold encB
              simp only
              rw [hx, hy, List.length_map, List.length_map]
theorem flat_ge {α : Type} (f : α → List Int) (hf : ∀ x, 0 < (f x).length) : ∀ l : List α, l.length ≤ (l.flatMap f).length
  | [] => by simp
  | x :: t => by
    have := flat_ge f hf t
    have := hf x
    rw [List.flatMap_cons, List.length_append, List.length_cons]
    omega
theorem txt_pos (x : ByteArray) : 0 < (txt x).length := by
  have := venc_pos x.size
  rw [txt, List.length_append]; omega
theorem pair_pos (x : Nat × Nat) : 0 < (pairB x).length := by
  rw [pairB, List.length_append, raw8_len]; omega
/-- What is written is read, whatever stands behind it. -/
theorem batch_reads {l : List Spn} (hn : l.length ≤ 500) (hv : ∀ x ∈ l, checkS x = 0 ∧ Fits x) (hz : (encB l).length ≤ 65536) (rest : List Int) :
    ∃ T R s', batchR (encB l ++ rest) ⟨3, 0, 0, 0⟩ = .ok ((T, R), l) s' ∧ s'.n = (encB l).length ∧ s'.tu = T.length ∧ s'.ru = R.length := by
  have ht := Tab.body l fun x hx => hv x hx
  have z1 : (bodyB l).tx.length ≤ 65536 := by
    have := flat_ge txt txt_pos (bodyB l).tx
    simp only [encB, List.length_append] at hz; omega
  have z2 : (bodyB l).tr.length ≤ 65536 := by
    have := flat_ge pairB pair_pos (bodyB l).tr
    simp only [encB, List.length_append] at hz; omega
  obtain ⟨l1, s1, h1⟩ := uint_of ⟨3, 0, 0, 0⟩ (x := (bodyB l).tx.length) (by omega)
  obtain ⟨T, hT, h2⟩ := tab_back (enc := txt) s1 (bodyB l).tx ht.tx ht.ok
  obtain ⟨l3, s3, h3⟩ := uint_of { s1 with n := s1.n + ((bodyB l).tx.flatMap txt).length } (x := (bodyB l).tr.length) (by omega)
  obtain ⟨R, hR, h4⟩ := tab_back (enc := pairB) s3 (bodyB l).tr ht.tr ht.okp
  obtain ⟨l5, s5, h5⟩ := uint_of { s3 with n := s3.n + ((bodyB l).tr.flatMap pairB).length } (x := l.length) (by omega)
  have hs : Sync (T.map Prod.fst) (R.map Prod.fst) s5 ⟨[], [], 0, []⟩ := by
    obtain ⟨_, _, e1⟩ := h1
    obtain ⟨_, _, e3⟩ := h3
    obtain ⟨_, _, e5⟩ := h5
    subst e5 e3 e1
    exact ⟨List.nil_prefix, rfl, List.nil_prefix, rfl, rfl⟩
  obtain ⟨l6, s6, h6, h7⟩ := spans_back (T := T.map Prod.fst) (R := R.map Prod.fst) (by rw [hT]; omega) (by rw [hR]; omega) hs (by simp) hv ⟨by rw [hT]; exact List.prefix_rfl, by rw [hR]; exact List.prefix_rfl⟩
  have hE : batchE ⟨3, 0, 0, 0⟩ ((T, R), l) (l1 ++ ((bodyB l).tx.flatMap txt ++ (l3 ++ ((bodyB l).tr.flatMap pairB ++ (l5 ++ l6))))) s6 :=
    ⟨_, l1, s1, _, rfl, h1, T, _, _, _, rfl, h2, _, l3, s3, _, rfl, h3, R, _, _, _, rfl, h4, l.length, l5, s5, _, rfl, ⟨h5, by rw [if_none]; omega⟩, l, rfl, h6⟩
  have ho : l6 = (bodyB l).out := by
    have := h7.out
    rw [List.nil_append] at this
    exact this.symm
  have hl : encB l = [83, 66, 1] ++ (l1 ++ ((bodyB l).tx.flatMap txt ++ (l3 ++ ((bodyB l).tr.flatMap pairB ++ (l5 ++ l6))))) := by
    rw [h1.2.1, h3.2.1, h5.2.1, ho]
    rfl
  obtain ⟨e1, e2⟩ := batch_exact.back (L := encB l ++ rest) (rest := rest) hE (by rw [hl]; rfl)
  refine ⟨T, R, s6, e1, ?_, ?_, ?_⟩
  · rw [e2, hl]
    simp only [List.length_append, List.length_cons, List.length_nil]
  · have e := congrArg List.length hT
    rw [List.length_map] at e
    exact h7.sync.tu.trans e.symm
  · have e := congrArg List.length hR
    rw [List.length_map] at e
    exact h7.sync.ru.trans e.symm
theorem enc_ok {l : List Spn} : encR l = .ok L ↔ l.length ≤ 500 ∧ (∀ x ∈ l, checkS x = 0) ∧ (encB l).length ≤ 65536 ∧ L = encB l := by
  unfold encR
  by_cases h1 : 500 < l.length
  · rw [if_pos h1]
    constructor
    · intro h; cases h
    · rintro ⟨h, _⟩; omega
  · rw [if_neg h1]
    cases h2 : l.findIdx? (fun s => checkS s != 0) with
    | some i =>
      constructor
      · intro h; cases h
      · rintro ⟨_, h, _⟩
        rw [List.findIdx?_eq_some_iff_getElem] at h2
        obtain ⟨hi, h3, _⟩ := h2
        rw [h _ (List.getElem_mem hi)] at h3
        simp at h3
    | none =>
      have hc : ∀ x ∈ l, checkS x = 0 := by
        rw [List.findIdx?_eq_none_iff] at h2
        intro x hx
        simpa using h2 x hx
      simp only
      by_cases h3 : 65536 < (encB l).length
      · rw [if_pos h3]
        constructor
        · intro h; cases h
        · rintro ⟨_, _, h, _⟩; omega
      · rw [if_neg h3]
        constructor
        · intro h
          injection h with h
          exact ⟨by omega, hc, by omega, h.symm⟩
        · rintro ⟨_, _, _, rfl⟩; rfl
theorem head_eq (l : List Spn) (rest : List Int) : (encB l ++ rest).take 3 = [83, 66, 1] := rfl
/-- What is encoded is decoded as it was. -/
theorem decB_back {l : List Spn} (hf : ∀ x ∈ l, Fits x) (h : encR l = .ok L) : decB L = .ok l := by
  obtain ⟨h1, h2, h3, rfl⟩ := enc_ok.1 h
  obtain ⟨T, R, s, e1, e2, e3, e4⟩ := batch_reads h1 (fun x hx => ⟨h2 x hx, hf x hx⟩) h3 []
  have hd := head_eq l []
  rw [List.append_nil] at e1 hd
  unfold decB
  rw [if_neg (by omega), if_neg (fun g => g hd), e1]
  simp only
  rw [e3, e4, List.getElem?_eq_none (Nat.le_refl _), List.getElem?_eq_none (Nat.le_refl _)]
  simp only
  rw [if_neg (by omega)]
/-- With bytes behind it. -/
theorem decB_rest {l : List Spn} (hf : ∀ x ∈ l, Fits x) (h : encR l = .ok L) {more : List Int} (hm : 0 < more.length) :
    decB (L ++ more) = if 65536 < L.length + more.length then .err 0 51 else .err L.length 15 := by
  obtain ⟨h1, h2, h3, rfl⟩ := enc_ok.1 h
  obtain ⟨T, R, s, e1, e2, e3, e4⟩ := batch_reads h1 (fun x hx => ⟨h2 x hx, hf x hx⟩) h3 more
  unfold decB
  rw [List.length_append]
  split
  · rfl
  · rw [if_neg (fun g => g (head_eq l more)), e1]
    simp only
    rw [e3, e4, List.getElem?_eq_none (Nat.le_refl _), List.getElem?_eq_none (Nat.le_refl _)]
    simp only
    rw [if_pos (by omega), e2]
/-- Cut off. -/
theorem decB_cut {l : List Spn} (hb : Bytes L) (hf : ∀ x ∈ l, Fits x) (h : encR l = .ok L) {k : Nat} (hk : k < L.length) :
    decB (L.take k) = if k < 3 then .err 0 52 else .err k 11 := by
  obtain ⟨h1, h2, h3, rfl⟩ := enc_ok.1 h
  obtain ⟨T, R, s, e1, e2, e3, e4⟩ := batch_reads h1 (fun x hx => ⟨h2 x hx, hf x hx⟩) h3 []
  have hd := head_eq l []
  rw [List.append_nil] at e1 hd
  unfold decB
  rw [if_neg (by rw [List.length_take]; omega)]
  split
  · rename_i h4
    rw [if_pos]
    apply Classical.byContradiction
    intro h5
    apply h4
    rw [List.take_take, show min 3 k = 3 by omega]
    exact hd
  · rename_i h4
    have h5 : ¬ k < 3 := fun h5 => h4 fun h6 => by
      have := congrArg List.length h6
      rw [List.length_take, List.length_take] at this
      simp at this; omega
    rw [if_neg h5, batch_good.cut k hb (s := ⟨3, 0, 0, 0⟩) (by simp only; omega) e1 (by simp only; omega) (by omega)]
/-- An error lies within the bytes. -/
theorem decB_err (hb : Bytes L) {a no : Int} (h : decB L = .err a no) : 0 ≤ a ∧ a ≤ L.length ∧ no ≠ 0 := by
  unfold decB at h
  split at h
  · injection h with h1 h2; subst h1 h2; exact ⟨by omega, by omega, by omega⟩
  · split at h
    · injection h with h1 h2; subst h1 h2; exact ⟨by omega, by omega, by omega⟩
    · rename_i h1 h2
      have h2 : L.take 3 = [83, 66, 1] := Decidable.not_not.1 h2
      have h3 : 3 ≤ L.length := by
        have := congrArg List.length h2
        rw [List.length_take] at this
        simp at this; omega
      split at h
      · rename_i a' no' e
        injection h with h1 h2
        subst h1 h2
        exact batch_good.err hb (s := ⟨3, 0, 0, 0⟩) h3 e
      · rename_i T R y s e
        obtain ⟨_, m1, m2⟩ := batch_exact.form hb (s := ⟨3, 0, 0, 0⟩) h3 e
        obtain ⟨c1, c2, c3, d1, d2, c4, c5⟩ := batch_of (s := ⟨3, 0, 0, 0⟩) ⟨rfl, rfl, rfl⟩ m2
        split at h
        · rename_i x hx
          have := d1 x (List.mem_of_getElem? hx)
          injection h with h1 h2; subst h1 h2; exact ⟨by omega, by omega, by omega⟩
        · split at h
          · rename_i x hx
            have := d2 x (List.mem_of_getElem? hx)
            injection h with h1 h2; subst h1 h2; exact ⟨by omega, by omega, by omega⟩
          · split at h
            · injection h with h1 h2; subst h1 h2; exact ⟨by omega, by omega, by omega⟩
            · cases h
end Go.Proofs.YtlcbgklealipoaaGreatDoor
end

section
/- A beginning of a list of spans has fewer bytes (plain). -/
namespace Go.Proofs.YtlcbgklealipoaaGreatDoor
open Go.RowKit
set_option linter.unusedVariables false
set_option linter.unusedSimpArgs false

def BW.z (b : BW) : Nat := b.out.length
theorem z_put (b : BW) (l : List Int) : (b.put l).z = b.z + l.length := by simp [BW.z, BW.put]
theorem z_text (b : BW) (x : ByteArray) : b.z < (b.text x).z := by
  have := venc_pos (idxIn b.tx x)
  simp only [BW.z, BW.text, List.length_append]; omega
theorem z_trace (b : BW) (x : Nat × Nat) : b.z < (b.trace x).z := by
  have := venc_pos (idxIn b.tr x)
  simp only [BW.z, BW.trace, List.length_append]; omega
theorem z_attr (b : BW) (a : Atr) : b.z ≤ (b.attr a).z := by
  have h1 := z_text b a.key
  have h2 := z_put (b.text a.key) [a.k]
  simp only [BW.attr]
  split
  · have := z_text ((b.text a.key).put [a.k]) a.t; omega
  · split
    · rw [z_put]; omega
    · split
      · rw [z_put]; omega
      · omega
theorem z_attrs : ∀ (q : List Atr) (b : BW), b.z ≤ (q.foldl BW.attr b).z
  | [], b => Nat.le_refl _
  | a :: q, b => Nat.le_trans (z_attr b a) (z_attrs q (b.attr a))
theorem z_events : ∀ (q : List Evt) (b : BW) (p : Int), b.z ≤ (b.events p q).z
  | [], b, p => Nat.le_refl _
  | e :: q, b, p => by
    have h1 := z_put b (venc (e.at_ - p).toNat)
    have h2 := z_text (b.put (venc (e.at_ - p).toNat)) e.n
    have h3 := z_events q ((b.put (venc (e.at_ - p).toNat)).text e.n) e.at_
    rw [BW.events]; omega
theorem z_span (b : BW) (x : Spn) : b.z < (b.span x).z := by
  have h1 : b.z < (b.p1 x).z := z_trace _ _
  have h2 : (b.p1 x).z ≤ (b.p2 x).z := by unfold BW.p2; rw [z_put, z_put]; omega
  have h3 : (b.p2 x).z < (b.p3 x).z := z_text _ _
  have h4 : (b.p3 x).z < (b.p4 x).z := z_text _ _
  have h5 : (b.p4 x).z ≤ (b.p5 x).z := by
    show _ ≤ (((b.p4 x).put [x.kind + 8 * x.st]).put (venc (zig (x.start - b.st)).toNat)).z
    rw [z_put, z_put]; omega
  have h6 : (b.p5 x).z ≤ (b.p6 x).z := by unfold BW.p6; rw [z_put, z_put, z_put]; omega
  have h7 : (b.p6 x).z ≤ (b.p7 x).z := by
    unfold BW.p7
    have := z_attrs x.ats ((b.p6 x).put (venc x.ats.length))
    rw [z_put] at this; omega
  have h8 := z_events x.evs ((b.p7 x).put (venc x.evs.length)) 0
  rw [z_put] at h8
  rw [span_eq]; omega
theorem z_spans : ∀ (q : List Spn) (b : BW), b.z ≤ (q.foldl BW.span b).z
  | [], b => Nat.le_refl _
  | a :: q, b => Nat.le_trans (Nat.le_of_lt (z_span b a)) (z_spans q (b.span a))
theorem flat_pre {α : Type} (f : α → List Int) {l T : List α} (h : l <+: T) : (l.flatMap f).length ≤ (T.flatMap f).length := by
  obtain ⟨t, rfl⟩ := h
  rw [List.flatMap_append, List.length_append]; omega
theorem enc_less {l : List Spn} {k : Nat} (hk : k < l.length) : (encB (l.take k)).length < (encB l).length := by
  have hg : Grows (bodyB (l.take k)) (bodyB l) := by
    have := spans_grow (l.drop k) (bodyB (l.take k))
    unfold bodyB at this ⊢
    rwa [← List.foldl_append, List.take_append_drop] at this
  have hz : (bodyB (l.take k)).z < (bodyB l).z := by
    obtain ⟨x, t, e⟩ : ∃ x t, l.drop k = x :: t := by
      cases e : l.drop k with
      | nil =>
        have := congrArg List.length e
        rw [List.length_drop] at this
        simp at this; omega
      | cons x t => exact ⟨x, t, rfl⟩
    have h1 := z_span (bodyB (l.take k)) x
    have h2 := z_spans t ((bodyB (l.take k)).span x)
    have h3 : bodyB l = t.foldl BW.span ((bodyB (l.take k)).span x) := by
      have : l = l.take k ++ x :: t := by rw [← e, List.take_append_drop]
      conv => lhs; rw [this]
      unfold bodyB
      rw [List.foldl_append]
      rfl
    rw [h3]; omega
  have h1 := venc_mono _ _ hg.tx.length_le
  have h2 := venc_mono _ _ hg.tr.length_le
  have h3 := flat_pre txt hg.tx
  have h4 := flat_pre pairB hg.tr
  have h5 : (venc (l.take k).length).length ≤ (venc l.length).length := venc_mono _ _ (by rw [List.length_take]; omega)
  unfold BW.z at hz
  simp only [encB, List.length_append]
  omega
theorem enc_take {L : List Int} {l : List Spn} {k : Nat} (h : encR l = .ok L) (hk : k < l.length) : ∃ M, encR (l.take k) = .ok M ∧ M.length < L.length := by
  obtain ⟨h1, h2, h3, rfl⟩ := enc_ok.1 h
  have h4 := enc_less hk
  exact ⟨_, enc_ok.2 ⟨by rw [List.length_take]; omega, fun x hx => h2 x (List.mem_of_mem_take hx), by omega, rfl⟩, h4⟩
end Go.Proofs.YtlcbgklealipoaaGreatDoor
end

