/- The steps of a file, plain. -/
import Derived.Test.YtgohjgeplageeaaD0
namespace Go.Proofs.Ytgohjgeplageeaa
set_option linter.unusedVariables false
set_option linter.unusedSimpArgs false

theorem allL_append : ∀ (p q : List Stp), allL (p ++ q) = allL p + allL q
  | [], q => by simp [allL]
  | s :: r, q => by simp only [List.cons_append, allL, allL_append r q]; omega
theorem keptL_append : ∀ (p q : List Stp) (u : Nat) (b : List Int), keptL (p ++ q) u b = keptL q (u - allL p) (keptL p u b)
  | [], q, u, b => by simp [keptL, allL]
  | s :: r, q, u, b => by
    simp only [List.cons_append, keptL, allL, keptL_append r q]
    rw [Nat.sub_sub]
theorem fullL_append : ∀ (p q : List Stp) (b : List Int), fullL (p ++ q) b = fullL q (fullL p b)
  | [], q, b => rfl
  | s :: r, q, b => fullL_append r q _
theorem okL_append : ∀ (p q : List Stp) (b : List Int), okL (p ++ q) b ↔ okL p b ∧ okL q (fullL p b)
  | [], q, b => by simp [okL, fullL]
  | s :: r, q, b => by simp only [List.cons_append, okL, fullL, okL_append r q, and_assoc]
/-- As many units as all have: all is done. -/
theorem keptL_full : ∀ (p : List Stp) (u : Nat) (b : List Int), allL p ≤ u → keptL p u b = fullL p b
  | [], u, b, _ => rfl
  | s :: r, u, b, h => by
    simp only [allL] at h
    simp only [keptL, fullL, Nat.min_eq_right (show s.units ≤ u by omega)]
    exact keptL_full r _ _ (by omega)
theorem part_len (b : List Int) (u : Nat) (s : Stp) : (s.part b u).length ≤ b.length + s.units := by
  cases s with
  | app l => simp [Stp.part, Stp.units]; omega
  | cut n =>
    simp only [Stp.part, Stp.units]
    split
    · simp; omega
    · omega
theorem keptL_len : ∀ (p : List Stp) (u : Nat) (b : List Int), (keptL p u b).length ≤ b.length + allL p
  | [], u, b => by simp [keptL, allL]
  | s :: r, u, b => by
    have h1 := keptL_len r (u - s.units) (s.part b (min u s.units))
    have h2 := part_len b (min u s.units) s
    simp only [keptL, allL]
    omega
theorem fullL_len (p : List Stp) (b : List Int) : (fullL p b).length ≤ b.length + allL p := by
  rw [← keptL_full p (allL p) b (Nat.le_refl _)]; exact keptL_len p _ b
theorem part_zero (b : List Int) (s : Stp) : s.part b 0 = b := by cases s <;> simp [Stp.part]
/-- No units: nothing is done. -/
theorem keptL_zero : ∀ (p : List Stp) (b : List Int), keptL p 0 b = b
  | [], b => rfl
  | s :: r, b => by
    simp only [keptL, Nat.zero_min, part_zero]
    rw [Nat.zero_sub]
    exact keptL_zero r b
theorem take_snoc {α : Type} {l : List α} {k : Nat} {x : α} (h : l[k]? = some x) : l.take (k + 1) = l.take k ++ [x] := by
  rw [List.take_add_one, h]; rfl
theorem allL_take_succ {p : List Stp} {k : Nat} {s : Stp} (h : p[k]? = some s) : allL (p.take (k + 1)) = allL (p.take k) + s.units := by
  rw [take_snoc h, allL_append]; simp [allL]
theorem allL_take_le (p : List Stp) (k : Nat) : allL (p.take k) ≤ allL p := by
  have h := allL_append (p.take k) (p.drop k)
  rw [List.take_append_drop] at h
  omega
theorem keptL_take_succ {p : List Stp} {k u : Nat} {s : Stp} {b : List Int} (h : p[k]? = some s) :
    keptL (p.take (k + 1)) u b = s.part (keptL (p.take k) u b) (min (u - allL (p.take k)) s.units) := by
  rw [take_snoc h, keptL_append]; simp [keptL]
theorem okL_take {p : List Stp} {b : List Int} (h : okL p b) {k n : Nat} (hk : p[k]? = some (.cut n)) {u : Nat} (hu : 0 < u - allL (p.take k)) : n ≤ (keptL (p.take k) u b).length := by
  have hp : p = p.take k ++ .cut n :: p.drop (k + 1) := by
    have h1 := (List.getElem?_eq_some_iff.1 hk).1
    have h2 := (List.getElem?_eq_some_iff.1 hk).2
    rw [← h2, ← List.drop_eq_getElem_cons h1, List.take_append_drop]
  rw [hp, okL_append] at h
  rw [keptL_full _ _ _ (by omega)]
  exact h.2.1 n rfl
end Go.Proofs.Ytgohjgeplageeaa
