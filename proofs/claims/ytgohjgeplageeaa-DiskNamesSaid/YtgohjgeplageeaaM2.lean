/- sweep: what is alive, plain. -/
import Derived.Test.YtgohjgeplageeaaP2
import Derived.Test.YtgohjgeplageeaaM1
import Derived.Test.YtgohjgeplageeaaG8
namespace Go.Proofs.Ytgohjgeplageeaa
open Go Go.RowKit
set_option linter.unusedVariables false
set_option linter.unusedSimpArgs false

/-- Alive by the first n beginnings. -/
def Dsk.alv (S : Dsk) (n k : Nat) : Prop := ∃ j, j < n ∧ ∃ s, playM (S.mvs.take j) S.las s = some k
theorem Dsk.alv_succ (S : Dsk) (n k : Nat) : S.alv (n + 1) k ↔ S.alv n k ∨ ∃ s, playM (S.mvs.take n) S.las s = some k := by
  constructor
  · rintro ⟨j, hj, h⟩
    by_cases e : j = n
    · subst e; exact .inr h
    · exact .inl ⟨j, by omega, h⟩
  · rintro (⟨j, hj, h⟩ | h)
    · exact ⟨j, by omega, h⟩
    · exact ⟨n, Nat.lt_succ_self n, h⟩
theorem Dsk.alv_all (S : Dsk) (k : Nat) : S.alv (S.mvs.length + 1) k ↔ S.alive k := by
  constructor
  · rintro ⟨j, hj, h⟩; exact ⟨j, by omega, h⟩
  · rintro ⟨j, hj, h⟩; exact ⟨j, by omega, h⟩
theorem done_made {m : Mv} {n : Nm} {P : Nat → Prop} (hn : ∀ s i, n s = some i → P i) (hm : ∀ i, m.f = some i → P i) : ∀ s i, m.done n s = some i → P i := by
  intro s i h
  by_cases c : m.fr = noStr
  · cases e : m.f with
    | some i' =>
      simp only [Mv.done, c, if_true, e, Nm.put] at h
      by_cases e2 : s = m.to
      · rw [if_pos e2] at h
        rw [← Option.some.inj h]; exact hm _ e
      · rw [if_neg e2] at h; exact hn _ _ h
    | none =>
      simp only [Mv.done, c, if_true, e] at h
      exact hn _ _ h
  · by_cases c2 : m.to = noStr
    · simp only [Mv.done, c, c2, if_true, if_false, Nm.del] at h
      by_cases e2 : s = m.fr
      · rw [if_pos e2] at h; cases h
      · rw [if_neg e2] at h; exact hn _ _ h
    · cases e : n m.fr with
      | some i' =>
        simp only [Mv.done, c, c2, if_false, e, Nm.del, Nm.put] at h
        by_cases e2 : s = m.fr
        · rw [if_pos e2] at h; cases h
        · rw [if_neg e2] at h
          by_cases e3 : s = m.to
          · rw [if_pos e3] at h
            rw [← Option.some.inj h]; exact hn _ _ e
          · rw [if_neg e3] at h; exact hn _ _ h
      | none =>
        simp only [Mv.done, c, c2, if_false, e] at h
        exact hn _ _ h
theorem play_made {P : Nat → Prop} : ∀ (l : List Mv) (n : Nm), (∀ s i, n s = some i → P i) → (∀ m i, m ∈ l → m.f = some i → P i) → ∀ s i, playM l n s = some i → P i
  | [], n, hn, hm, s, i, h => hn s i h
  | m :: r, n, hn, hm, s, i, h => play_made r (m.done n) (done_made hn fun i hi => hm m i (by simp) hi) (fun m' i hm' => hm m' i (by simp [hm'])) s i h
theorem Dsk.Ok.made_at {S : Dsk} {N : Nat} (h : S.Ok N) (j : Nat) (s : ByteArray) (k : Nat) (hk : playM (S.mvs.take j) S.las s = some k) : S.made.getD k false = true :=
  play_made (P := fun k => S.made.getD k false = true) (S.mvs.take j) S.las h.rl (fun m i hm hi => h.rm m i (List.mem_of_mem_take hm) hi) s k hk
theorem Dsk.Ok.alv_made {S : Dsk} {N : Nat} (h : S.Ok N) {n k : Nat} (hk : S.alv n k) : S.made.getD k false = true := by
  obtain ⟨j, _, s, hs⟩ := hk
  exact h.made_at j s k hs
theorem okM_take {l : List Mv} {n : Nm} (h : okM l n) {i : Nat} {m : Mv} (hi : l[i]? = some m) : m.ok (playM (l.take i) n) := by
  have hp : l = l.take i ++ m :: l.drop (i + 1) := by
    have h1 := (List.getElem?_eq_some_iff.1 hi).1
    have h2 := (List.getElem?_eq_some_iff.1 hi).2
    rw [← h2, ← List.drop_eq_getElem_cons h1, List.take_append_drop]
  rw [hp, okM_append] at h
  exact h.2.1
theorem playM_take_succ {l : List Mv} {n : Nm} {i : Nat} {m : Mv} (hi : l[i]? = some m) : playM (l.take (i + 1)) n = m.done (playM (l.take i) n) := by
  rw [take_snoc hi, playM_append]; rfl
open Classical in
theorem sweepL_len (S : Dsk) (l : List Bool) : (sweepL S l).length = l.length := by simp [sweepL]
open Classical in
theorem sweepL_get (S : Dsk) (l : List Bool) (i : Nat) : (sweepL S l)[i]? = l[i]?.map fun b => b && decide (S.alive i) := by simp [sweepL]
theorem sweep_getD {S : Dsk} {i : Nat} (h : (sweepL S S.made).getD i false = true) : S.made.getD i false = true ∧ S.alive i := by
  rw [List.getD_eq_getElem?_getD, sweepL_get] at h
  rw [List.getD_eq_getElem?_getD]
  cases e : S.made[i]? with
  | none => rw [e] at h; cases h
  | some b =>
    rw [e] at h
    simp at h
    exact ⟨by simp [h.1], h.2⟩
theorem sweep_getD' {S : Dsk} {i : Nat} (h : S.made.getD i false = true) (ha : S.alive i) : (sweepL S S.made).getD i false = true := by
  rw [List.getD_eq_getElem?_getD] at h
  rw [List.getD_eq_getElem?_getD, sweepL_get]
  cases e : S.made[i]? with
  | none => rw [e] at h; cases h
  | some b => rw [e] at h; simp at h; simp [h, ha]
theorem Dsk.Ok.sweep {S : Dsk} {N : Nat} (h : S.Ok N) : S.sweep.Ok N := by
  refine { h with len := ?_, rl := ?_, rs := ?_, rm := ?_ }
  · show (sweepL S S.made).length = S.fs.length
    rw [sweepL_len]; exact h.len
  · intro s i hi
    exact sweep_getD' (h.rl s i hi) ⟨0, Nat.zero_le _, s, hi⟩
  · intro s i hi
    refine sweep_getD' (h.rs s i hi) ⟨S.mvs.length, Nat.le_refl _, s, ?_⟩
    rw [List.take_length, ← h.play]; exact hi
  · intro m i hm hi
    obtain ⟨j, hj⟩ := List.mem_iff_getElem?.1 hm
    have hfr : m.fr = noStr := by
      apply Decidable.byContradiction
      intro hne
      rw [h.mvf m hm hne] at hi
      cases hi
    refine sweep_getD' (h.rm m i hm hi) ⟨j + 1, (List.getElem?_eq_some_iff.1 hj).1, m.to, ?_⟩
    rw [playM_take_succ (show S.mvs[j]? = some m from hj)]
    simp [Mv.done, hfr, hi, Nm.put]
section
variable {w : World} {C : Col} {δ d N ml ms : Nat} {vm vd : Value} {ad : Nat → Nat} {S : Dsk}
theorem DAt.solid (h : DAt w C δ d N ml ms vm vd ad S) (h0 : S.Ok N) {i : Nat} (hi : S.made.getD i false = true) : Solid w (ad i) := by
  have hlt : i < S.fs.length := by have := getD_lt hi; have := h0.len; omega
  obtain ⟨vl, vp, vs, us, hF⟩ := h.fl i _ (List.getElem?_eq_getElem hlt) hi
  exact ⟨_, _, hF.blk⟩
theorem DAt.inj (h : DAt w C δ d N ml ms vm vd ad S) (h0 : S.Ok N) {i j : Nat} (hi : S.made.getD i false = true) (hj : S.made.getD j false = true) (e : ad i = ad j) : i = j := by
  have hlt : i < S.fs.length := by have := getD_lt hi; have := h0.len; omega
  have hlt' : j < S.fs.length := by have := getD_lt hj; have := h0.len; omega
  obtain ⟨vl, vp, vs, us, hF⟩ := h.fl i _ (List.getElem?_eq_getElem hlt) hi
  obtain ⟨vl', vp', vs', us', hF'⟩ := h.fl j _ (List.getElem?_eq_getElem hlt') hj
  have h1 := hF.ca
  rw [e, hF'.ca] at h1
  simp only [Prod.mk.injEq, true_and] at h1
  omega
end
end Go.Proofs.Ytgohjgeplageeaa
