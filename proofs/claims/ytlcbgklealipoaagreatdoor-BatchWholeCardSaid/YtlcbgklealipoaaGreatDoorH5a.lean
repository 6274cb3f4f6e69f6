/- Spans that were decoded fit (plain). -/
import Derived.Test.YtlcbgklealipoaaGreatDoorG14a
import Derived.Test.YtlcbgklealipoaaGreatDoorZH
namespace Go.Proofs.YtlcbgklealipoaaGreatDoor
open Go Go.RowKit
set_option linter.unusedVariables false
set_option linter.unusedSimpArgs false

section
variable {α : Type} {L : List Int}
theorem loop_inv2 {f : α → Rdr α} (P : α → Prop) (hP : ∀ a s b s', P a → f a L s = .ok b s' → P b) {a : α} (h0 : P a) : ∀ (k : Nat) {s s' : BSt} {b : α}, Rdr.loop f k a L s = .ok b s' → P b
  | 0, s, s', b, h => by injection h with h1 h2; subst h1; exact h0
  | k + 1, s, s', b, h => by
    obtain ⟨c, s1, h1, h2⟩ := bind_inv h
    exact hP _ _ _ _ (loop_inv2 P hP h0 k h1) h2
theorem chk_inv {f : Rdr α} {c : α → BSt → Option Int} {s s' : BSt} {a : α} (h : (f.chk c) L s = .ok a s') : f L s = .ok a s' := by
  unfold Rdr.chk at h
  split at h
  · rename_i a1 s1 hf
    split at h
    · injection h with h1 h2; subst h1 h2; exact hf
    · cases h
  · cases h
theorem mapS_inv {β : Type} {f : Rdr α} {g : α → BSt → β} {s s' : BSt} {b : β} (h : (f.mapS g) L s = .ok b s') : ∃ a, f L s = .ok a s' ∧ b = g a s := by
  unfold Rdr.mapS at h
  split at h
  · rename_i a s1 hf
    injection h with h1 h2
    subst h2
    exact ⟨a, hf, h1.symm⟩
  · cases h
end
section
variable {L : List Int} {s s' : BSt} {T : List ByteArray} {R : List (Nat × Nat)}
theorem bytes_mem {n : Nat} {q : List Int} (h : bytesR n L s = .ok q s') : q.length ≤ n ∧ ∀ x ∈ q, x ∈ L := by
  unfold bytesR rawR at h
  split at h
  · rename_i q1 m hq
    injection h with h1 h2
    subst h1
    split at hq
    · cases hq
    · split at hq
      · cases hq
      · injection hq with hq1 _
        subst hq1
        refine ⟨?_, fun x hx => List.mem_of_mem_drop (List.mem_of_mem_take hx)⟩
        rw [List.length_take]
        have : (n : Int).toNat = n := by omega
        rw [this]
        exact Nat.min_le_left _ _
  · cases h
theorem of8_small {l : List Int} (hb : Bytes l) (h : l.length ≤ 8) : of8 l < 18446744073709551616 := by
  have h1 := of8_lt l hb
  have h2 : 256 ^ l.length ≤ 256 ^ 8 := Nat.pow_le_pow_right (by omega) h
  have h3 : (256 : Nat) ^ 8 = 18446744073709551616 := by decide
  omega
theorem long_small (hb : Bytes L) {x : Nat} (h : longR L s = .ok x s') : x < 18446744073709551616 := by
  obtain ⟨q, hq, rfl⟩ := map_inv h
  obtain ⟨h1, h2⟩ := bytes_mem hq
  exact of8_small (fun y hy => hb y (h2 y hy)) h1
theorem named_inR {t : Nat × Nat} (h : namedR R L s = .ok t s') : t ∈ R := by
  unfold namedR Rdr.map Rdr.mapS Rdr.upd Rdr.chk at h
  cases hu : uintR L s with
  | err a no => rw [hu] at h; cases h
  | ok n s1 =>
    rw [hu] at h
    by_cases hn : R.length ≤ n
    · simp only [tabC, if_pos hn] at h; cases h
    · by_cases hn2 : s.ru < n
      · simp only [tabC, if_neg hn, if_pos hn2] at h; cases h
      · simp only [tabC, if_neg hn, if_neg hn2] at h
        injection h with h1 h2
        rw [← h1, List.getD_eq_getElem?_getD, List.getElem?_eq_getElem (by omega), Option.getD_some]
        exact List.getElem_mem _
theorem traces_fit (hb : Bytes L) {n : Nat} {R : RR} (h : Rdr.loop tracesR n [] L s = .ok R s') : ∀ y ∈ R.map Prod.fst, okP y := by
  refine loop_inv2 (P := fun (l : RR) => ∀ y ∈ l.map Prod.fst, okP y) ?_ (fun y hy => by cases hy) n h
  intro l s b s' hl hs
  obtain ⟨x, hx, rfl⟩ := mapS_inv hs
  obtain ⟨q, hq, rfl⟩ := map_inv (chk_inv hx)
  obtain ⟨h1, h2⟩ := bytes_mem hq
  intro y hy
  rw [List.map_append] at hy
  rcases List.mem_append.1 hy with hy | hy
  · exact hl y hy
  · simp at hy
    rw [hy]
    exact ⟨of8_small (fun y hy => hb y (h2 y (List.mem_of_mem_take hy))) (by rw [List.length_take]; omega), of8_small (fun y hy => hb y (h2 y (List.mem_of_mem_drop hy))) (by rw [List.length_drop]; omega)⟩
theorem intR_range {d : Int} (h : intR L s = .ok d s') : -9223372036854775808 ≤ d ∧ d < 9223372036854775808 := (intR_st h).2
theorem attr_fit {x : Atr} (h : attrR T L s = .ok x s') : (-9223372036854775808 ≤ x.k ∧ x.k < 9223372036854775808) ∧ -9223372036854775808 ≤ x.i ∧ x.i < 9223372036854775808 := by
  unfold attrR at h
  obtain ⟨key, s1, h1, h⟩ := bind_inv h
  obtain ⟨k, s2, h2, h⟩ := bind_inv h
  by_cases e0 : k = 0
  · simp only [if_pos e0] at h
    obtain ⟨t, h3, rfl⟩ := map_inv h
    exact ⟨⟨by simp, by simp⟩, by simp, by simp⟩
  · by_cases e1 : k = 1
    · simp only [if_neg e0, if_pos e1] at h
      obtain ⟨t, h3, rfl⟩ := map_inv h
      exact ⟨⟨by simp, by simp⟩, intR_range h3⟩
    · simp only [if_neg e0, if_neg e1] at h
      obtain ⟨t, h3, rfl⟩ := map_inv h
      have := smallR_le h3
      exact ⟨⟨by simp, by simp⟩, by show (-9223372036854775808 : Int) ≤ ((t : Nat) : Int); omega, by show ((t : Nat) : Int) < 9223372036854775808; omega⟩
theorem fields_fit (hb : Bytes L) (hR : ∀ y ∈ R, okP y) {x : Spn} (h : fieldsR T R L s = .ok x s') :
    (x.hi < 18446744073709551616 ∧ x.lo < 18446744073709551616) ∧ (x.id < 18446744073709551616 ∧ x.par < 18446744073709551616) ∧ (∀ v ∈ x.links, v < 18446744073709551616) ∧
      ∀ a ∈ x.ats, (-9223372036854775808 ≤ a.k ∧ a.k < 9223372036854775808) ∧ -9223372036854775808 ≤ a.i ∧ a.i < 9223372036854775808 := by
  unfold fieldsR at h
  obtain ⟨tr, s1, h1, h⟩ := bind_inv h
  obtain ⟨id, s2, h2, h⟩ := bind_inv h
  obtain ⟨par, s3, h3, h⟩ := bind_inv h
  obtain ⟨svc, s4, h4, h⟩ := bind_inv h
  obtain ⟨op, s5, h5, h⟩ := bind_inv h
  obtain ⟨k, s6, _, h⟩ := bind_inv h
  obtain ⟨start, s7, _, h⟩ := bind_inv h
  obtain ⟨fin, s8, _, h⟩ := bind_inv h
  obtain ⟨nl, s9, _, h⟩ := bind_inv h
  obtain ⟨links, s10, h10, h⟩ := bind_inv h
  obtain ⟨na, s11, _, h⟩ := bind_inv h
  obtain ⟨ats, s12, h12, h⟩ := bind_inv h
  obtain ⟨ne, s13, _, h⟩ := bind_inv h
  obtain ⟨ev, h14, rfl⟩ := map_inv h
  refine ⟨hR _ (named_inR h1), ⟨long_small hb h2, long_small hb h3⟩, ?_, ?_⟩
  · refine loop_inv2 (P := fun (l : List Nat) => ∀ v ∈ l, v < 18446744073709551616) ?_ (fun x hx => by cases hx) nl h10
    intro l s b s' hl hs
    unfold linkR at hs
    obtain ⟨v, hv, rfl⟩ := map_inv hs
    have hb2 : v + lastL l < 18446744073709551616 := by
      have hll : lastL l < 18446744073709551616 := by
        unfold lastL
        cases hg : l.getLast? with
        | none => simp
        | some y => exact hl y (List.mem_of_getLast? hg)
      unfold Rdr.chk at hv
      split at hv
      · rename_i a1 s1 hf
        by_cases hc : 18446744073709551615 - lastL l < a1
        · simp only [if_pos hc] at hv; cases hv
        · simp only [if_neg hc] at hv
          injection hv with e1 _
          omega
      · cases hv
    intro x hx
    rcases List.mem_append.1 hx with hx | hx
    · exact hl x hx
    · rw [List.mem_singleton] at hx; subst hx; exact hb2
  · refine loop_inv2 (P := fun (l : List Atr) => ∀ a ∈ l, (-9223372036854775808 ≤ a.k ∧ a.k < 9223372036854775808) ∧ -9223372036854775808 ≤ a.i ∧ a.i < 9223372036854775808) ?_ (fun x hx => by cases hx) na h12
    intro l s b s' hl hs
    obtain ⟨y, hy, rfl⟩ := map_inv hs
    intro x hx
    rcases List.mem_append.1 hx with hx | hx
    · exact hl x hx
    · rw [List.mem_singleton] at hx; subst hx; exact attr_fit hy
theorem fine_sized {x : Spn} (h : Fine x) : Sized x := by
  refine ⟨?_, ?_, fun a ha => ?_, fun e he => ?_⟩
  · have := plain_size h.svc; omega
  · have := plain_size h.op; omega
  · obtain ⟨h1, h2⟩ := h.ats.2 a ha
    have := keyed_size h1
    refine ⟨by omega, ?_⟩
    unfold valuedS at h2
    by_cases e0 : a.k = 0
    · rw [if_pos e0] at h2; simp only [Bool.and_eq_true] at h2; have := of_decide_eq_true h2.2.1; omega
    · by_cases e1 : a.k = 1
      · rw [if_neg e0, if_pos e1] at h2; have := of_decide_eq_true h2; omega
      · by_cases e2 : a.k = 2
        · rw [if_neg e0, if_neg e1, if_pos e2] at h2; simp only [Bool.and_eq_true] at h2; have := of_decide_eq_true h2.1; omega
        · rw [if_neg e0, if_neg e1, if_neg e2] at h2; cases h2
  · have := plain_size (h.evs.2 e he).2.2; omega
theorem dec_fits (hb : Bytes L) {l : List Spn} (h : decB L = .ok l) : ∀ x ∈ l, (Sized x ∧ Fits x) ∧ checkS x = 0 := by
  obtain ⟨g1, _, gc, _⟩ := decB_form hb h
  have h1 : ¬ 65536 < L.length := by omega
  have h2 : L.take 3 = [83, 66, 1] := by
    by_cases h2 : L.take 3 = [83, 66, 1]
    · exact h2
    · unfold decB at h
      rw [if_neg h1, if_pos h2] at h
      cases h
  have key : ∀ x ∈ l, ∃ T R s s', (∀ y ∈ R, okP y) ∧ fieldsR T R L s = .ok x s' := by
    cases ht : tabsR L s0 with
    | err a no => rw [dec_tabs h1 h2 ht] at h; cases h
    | ok p s1 =>
      obtain ⟨T, R⟩ := p
      have hR : ∀ y ∈ R.map Prod.fst, okP y := by
        unfold tabsR at ht
        obtain ⟨nt, t1, _, ht⟩ := bind_inv ht
        obtain ⟨T', t2, _, ht⟩ := bind_inv ht
        obtain ⟨nr, t3, _, ht⟩ := bind_inv ht
        obtain ⟨R', hr, e⟩ := map_inv ht
        injection e with e1 e2
        subst e2
        exact traces_fit hb hr
      cases hr : restR (T.map Prod.fst) (R.map Prod.fst) L s1 with
      | err a no => rw [dec_rest h1 h2 ht hr] at h; cases h
      | ok l' s2 =>
        have hl : l' = l := by
          cases hT : T[s2.tu]? with
          | some x => rw [dec_texts h1 h2 ht hr hT] at h; cases h
          | none =>
            cases hR' : R[s2.ru]? with
            | some x => rw [dec_traces h1 h2 ht hr hT hR'] at h; cases h
            | none =>
              by_cases hn : s2.n < L.length
              · rw [dec_more h1 h2 ht hr hT hR' hn] at h; cases h
              · rw [dec_all h1 h2 ht hr hT hR' hn] at h; injection h
        subst hl
        unfold restR at hr
        obtain ⟨n, t1, _, hr⟩ := bind_inv hr
        refine loop_inv2 (P := fun (q : List Spn) => ∀ x ∈ q, ∃ T R s s', (∀ y ∈ R, okP y) ∧ fieldsR T R L s = .ok x s') ?_ (fun x hx => by cases hx) n hr
        intro q s b s' hq hs x hx
        obtain ⟨y, hy, rfl⟩ := map_inv hs
        rcases List.mem_append.1 hx with hx | hx
        · exact hq x hx
        · rw [List.mem_singleton] at hx; subst hx; exact ⟨_, _, _, _, hR, chk_inv hy⟩
  intro x hx
  have hf := fine_of (gc x hx)
  obtain ⟨T, R, s, s', hR, hx2⟩ := key x hx
  obtain ⟨⟨a1, a2⟩, ⟨a3, a4⟩, a5, a6⟩ := fields_fit hb hR hx2
  have k1 := hf.kind
  have k2 := hf.st
  have k3 := hf.start
  exact ⟨⟨fine_sized hf, ⟨a1, a2, a3, a4, a5, by omega, by omega, by omega, by omega, a6, fun e he => by have := hf.evs.2 e he; omega⟩⟩, gc x hx⟩
end
end Go.Proofs.YtlcbgklealipoaaGreatDoor
