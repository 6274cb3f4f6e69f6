/- A span there and back (plain). -/
import Derived.Test.YtniigjfimggobaaDoorS5
namespace Go.Proofs.YtniigjfimggobaaDoor
open Go.RowKit
set_option linter.unusedVariables false
set_option linter.unusedSimpArgs false

/-- What Check says of a span that may be. -/
structure Fine (s : Spn) : Prop where
  ids : ¬ (s.hi = 0 ∧ s.lo = 0) ∧ s.id ≠ 0
  start : 0 ≤ s.start ∧ s.start ≤ s.fin ∧ s.fin ≤ 4611686018427387904
  svc : plainS s.svc 60 33 = true
  op : plainS s.op 100 32 = true
  kind : 0 ≤ s.kind ∧ s.kind ≤ 4
  st : 0 ≤ s.st ∧ s.st ≤ 2
  links : s.links.length ≤ 16
  ats : s.ats.length ≤ 32 ∧ ∀ a ∈ s.ats, keyedS a.key = true ∧ valuedS a = true
  evs : s.evs.length ≤ 32 ∧ ∀ e ∈ s.evs, 0 ≤ e.at_ ∧ e.at_ ≤ 4611686018427387904 ∧ plainS e.n 100 32 = true
theorem carries_all : ∀ (l : List Atr) (p : Option Atr), carriesS p l = true → ∀ a ∈ l, keyedS a.key = true ∧ valuedS a = true
  | [], _, _, a, ha => by cases ha
  | x :: r, p, h, a, ha => by
    simp only [carriesS, Bool.and_eq_true] at h
    rcases List.mem_cons.1 ha with rfl | ha
    · exact h.1.1
    · exact carries_all r _ h.2 a ha
theorem tells_all : ∀ (l : List Evt) (p : Option Evt), tellsS p l = true → ∀ e ∈ l, 0 ≤ e.at_ ∧ e.at_ ≤ 4611686018427387904 ∧ plainS e.n 100 32 = true
  | [], _, _, a, ha => by cases ha
  | x :: r, p, h, a, ha => by
    simp only [tellsS, Bool.and_eq_true, decide_eq_true_eq] at h
    rcases List.mem_cons.1 ha with rfl | ha
    · exact ⟨h.1.1.1.1, h.1.1.1.2, h.1.1.2⟩
    · exact tells_all r _ h.2 a ha
theorem fine_of {s : Spn} (h : checkS s = 0) : Fine s := by
  unfold checkS at h
  by_cases h1 : (s.hi = 0 ∧ s.lo = 0) ∨ s.id = 0
  · rw [if_pos h1] at h; omega
  · rw [if_neg h1] at h
    by_cases h2 : s.start < 0 ∨ s.fin < s.start ∨ 4611686018427387904 < s.fin
    · rw [if_pos h2] at h; omega
    · rw [if_neg h2] at h
      by_cases h3 : plainS s.svc 60 33 = false ∨ plainS s.op 100 32 = false
      · rw [if_pos h3] at h; omega
      · rw [if_neg h3] at h
        by_cases h4 : s.kind < 0 ∨ 4 < s.kind ∨ s.st < 0 ∨ 2 < s.st
        · rw [if_pos h4] at h; omega
        · rw [if_neg h4] at h
          by_cases h5 : linkedS s = false
          · rw [if_pos h5] at h; omega
          · rw [if_neg h5] at h
            by_cases h6 : carriedS s.ats = false
            · rw [if_pos h6] at h; omega
            · rw [if_neg h6] at h
              by_cases h7 : toldS s.evs = false
              · rw [if_pos h7] at h; omega
              · simp only [Bool.not_eq_false] at h5 h6 h7
                simp only [linkedS, carriedS, toldS, Bool.and_eq_true, decide_eq_true_eq] at h5 h6 h7
                refine ⟨⟨fun e => h1 (.inl e), fun e => h1 (.inr e)⟩, by omega, ?_, ?_, by omega, by omega, h5.2, ⟨h6.2, carries_all _ _ h6.1⟩, ⟨h7.2, tells_all _ _ h7.1⟩⟩
                · cases e : plainS s.svc 60 33
                  · exact absurd (.inl e) h3
                  · rfl
                · cases e : plainS s.op 100 32
                  · exact absurd (.inr e) h3
                  · rfl
theorem plain_size {s : ByteArray} {most fr : Nat} (h : plainS s most fr = true) : 0 < s.size ∧ s.size ≤ most ∧ Lib.validD s.data.toList = true := by
  simp only [plainS, Bool.and_eq_true, Bool.not_eq_true', decide_eq_false_iff_not, decide_eq_true_eq] at h
  exact ⟨by omega, h.2.1, h.2.2.1⟩
/-- Ascii is UTF-8. -/
theorem ascii_valid (l : List UInt8) (h : ∀ b ∈ l, b.toNat < 128) : Lib.validD l = true := by
  induction l with
  | nil => exact Lib.validD_nil
  | cons b t ih =>
    rw [Lib.validD_cons b t (h b (by simp))]
    exact ih fun c hc => h c (by simp [hc])
theorem keyed_size {s : ByteArray} (h : keyedS s = true) : 0 < s.size ∧ s.size ≤ 40 ∧ Lib.validD s.data.toList = true := by
  simp only [keyedS, Bool.and_eq_true, Bool.not_eq_true', decide_eq_false_iff_not, decide_eq_true_eq, List.all_eq_true] at h
  refine ⟨by omega, h.2.1, ascii_valid _ fun b hb => ?_⟩
  have := h.2.2.2 b hb
  simp only [keyB, decide_eq_true_eq] at this
  omega
theorem valued_ok {a : Atr} (h : valuedS a = true) : 0 ≤ a.k ∧ a.k ≤ 2 ∧ a.t.size ≤ 200 ∧ Lib.validD a.t.data.toList = true := by
  unfold valuedS at h
  split at h
  · simp only [Bool.and_eq_true, decide_eq_true_eq] at h
    exact ⟨by omega, by omega, h.2.1, h.2.2⟩
  · have empty : a.t.size = 0 → Lib.validD a.t.data.toList = true := fun e => by
      have : a.t.data.toList = [] := List.eq_nil_of_length_eq_zero (by rw [Array.length_toList]; exact e)
      rw [this]; rfl
    split at h
    · simp only [decide_eq_true_eq] at h
      exact ⟨by omega, by omega, by omega, empty h⟩
    · split at h
      · simp only [Bool.and_eq_true, decide_eq_true_eq] at h
        exact ⟨by omega, by omega, by omega, empty h.1⟩
      · cases h
variable {L : List Int}
theorem OneForm.go {α : Type} {f : DSt → α × DSt} {enc : α → List Int} {C : α → Prop} (h : OneForm L f enc C) {st : DSt} {n m : Nat} (hn : n ≤ L.length) (e : st = .ok n) (e2 : (f st).2 = .ok m) (hc : C (f st).1) :
    n ≤ m ∧ m ≤ L.length ∧ seg L n m = enc (f st).1 := by
  subst e
  exact h n _ m hn (by rw [← e2]) hc
theorem atr_one (hb : Bytes L) : OneForm L (atrP L) encA fun a => a.k < 1000 := by
  intro n x m hn h hc
  simp only [atrP] at h
  injection h with h1 h2
  obtain ⟨n3, e3⟩ := (sig_stays L).ok h2
  obtain ⟨n2, e2⟩ := (txt_stays L 200).ok e3
  obtain ⟨n1, e1⟩ := (num_stays L).ok e2
  have g1 := (txt_one hb 40).go (st := .ok n) hn rfl e1 trivial
  have g2 := (num_one hb).go g1.2.1 e1 e2 trivial
  have g3 := (txt_one hb 200).go g2.2.1 e2 e3 trivial
  have g4 := (sig_one hb).go g3.2.1 e3 h2 trivial
  refine ⟨by omega, g4.2.1, ?_⟩
  have hk : (numP L (txtP L 40 (.ok n)).2).1 < 1000 := by
    rw [← h1] at hc
    simp only [smallN] at hc
    split at hc <;> omega
  rw [seg_trans L g1.1 (by omega : n1 ≤ m), seg_trans L g2.1 (by omega : n2 ≤ m), seg_trans L g3.1 g4.1, g1.2.2, g2.2.2, g3.2.2, g4.2.2, ← h1]
  simp only [encA, txtB, smallN, if_neg (show ¬ 1000 < (numP L (txtP L 40 (.ok n)).2).1 by omega), Int.toNat_natCast]
theorem evt_one (hb : Bytes L) : OneForm L (evtP L) encE fun e => e.at_ ≤ 4611686018427387904 := by
  intro n x m hn h hc
  simp only [evtP] at h
  injection h with h1 h2
  obtain ⟨n1, e1⟩ := (txt_stays L 100).ok h2
  have g1 := (num_one hb).go (st := .ok n) hn rfl e1 trivial
  have g2 := (txt_one hb 100).go g1.2.1 e1 h2 trivial
  refine ⟨by omega, g2.2.1, ?_⟩
  have hk : (numP L (.ok n)).1 ≤ 4611686018427387904 := by
    rw [← h1] at hc
    simp only [momentN] at hc
    split at hc <;> omega
  rw [seg_trans L g1.1 g2.1, g1.2.2, g2.2.2, ← h1]
  simp only [encE, txtB, momentN, if_neg (show ¬ 4611686018427387904 < (numP L (.ok n)).1 by omega), Int.toNat_natCast]
theorem atr_back : Back L (atrP L) encA fun a => keyedS a.key = true ∧ valuedS a = true ∧ -9223372036854775808 ≤ a.i ∧ a.i < 9223372036854775808 := by
  intro n x rest hv he
  have hk := keyed_size hv.1
  have hvl := valued_ok hv.2.1
  unfold encA at he ⊢
  have h1 := txt_back (L := L) 40 (by decide) n x.key _ ⟨hk.2.1, hk.2.2⟩ (by rw [he, List.append_assoc])
  have d1 := drop_next (L := L) (n := n) (a := txt x.key) (by rw [he, List.append_assoc])
  have h2 := num_back (L := L) _ x.k.toNat _ (by omega) (by rw [d1, List.append_assoc])
  have d2 := drop_next (a := venc x.k.toNat) (by rw [d1, List.append_assoc])
  have h3 := txt_back (L := L) 200 (by decide) _ x.t _ ⟨hvl.2.2.1, hvl.2.2.2⟩ (by rw [d2, List.append_assoc])
  have d3 := drop_next (a := txt x.t) (by rw [d2, List.append_assoc])
  have h4 := sig_back (L := L) _ x.i _ hv.2.2 d3
  simp only [atrP]
  rw [show (40 : Int) = ((40 : Nat) : Int) from rfl, show (200 : Int) = ((200 : Nat) : Int) from rfl]
  rw [show (txtP L (40 : Nat) (.ok n)).2 = .ok (n + (txt x.key).length) from congrArg Prod.snd h1, h2]
  simp only
  rw [show (txtP L (200 : Nat) (.ok (n + (txt x.key).length + (venc x.k.toNat).length))).2 = .ok (n + (txt x.key).length + (venc x.k.toNat).length + (txt x.t).length) from congrArg Prod.snd h3, h4]
  rw [show strOfNums (txtP L (40 : Nat) (.ok n)).1 = x.key from congrArg Prod.fst h1, show strOfNums (txtP L (200 : Nat) (.ok (n + (txt x.key).length + (venc x.k.toNat).length))).1 = x.t from congrArg Prod.fst h3]
  have e5 : ((smallN x.k.toNat : Nat) : Int) = x.k := by unfold smallN; rw [if_neg (by omega)]; omega
  rw [e5]
  simp only [List.length_append, Nat.add_assoc]
theorem evt_back : Back L (evtP L) encE fun e => 0 ≤ e.at_ ∧ e.at_ ≤ 4611686018427387904 ∧ plainS e.n 100 32 = true := by
  intro n x rest hv he
  have hp := plain_size hv.2.2
  unfold encE at he ⊢
  have h1 := num_back (L := L) n x.at_.toNat _ (by omega) (by rw [he, List.append_assoc])
  have d1 := drop_next (L := L) (n := n) (a := venc x.at_.toNat) (by rw [he, List.append_assoc])
  have h2 := txt_back (L := L) 100 (by decide) _ x.n _ ⟨hp.2.1, hp.2.2⟩ d1
  simp only [evtP]
  rw [h1]
  simp only
  rw [show (100 : Int) = ((100 : Nat) : Int) from rfl]
  rw [show (txtP L (100 : Nat) (.ok (n + (venc x.at_.toNat).length))).2 = .ok (n + (venc x.at_.toNat).length + (txt x.n).length) from congrArg Prod.snd h2, show strOfNums (txtP L (100 : Nat) (.ok (n + (venc x.at_.toNat).length))).1 = x.n from congrArg Prod.fst h2]
  have e5 : ((momentN x.at_.toNat : Nat) : Int) = x.at_ := by unfold momentN; rw [if_neg (by omega)]; omega
  rw [e5]
  simp only [List.length_append, Nat.add_assoc]
end Go.Proofs.YtniigjfimggobaaDoor
