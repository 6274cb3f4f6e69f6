/- Spans, numbers and bytes that came in: their bounds. -/
import Derived.Test.YtlcbgklealipoaaGreatDoorO1
import Derived.Test.YtlcbgklealipoaaGreatDoorH3
namespace Go.Proofs.YtlcbgklealipoaaGreatDoor
open Go.ChangeShapes Go.WideShapes Go.ChangeAt Go.RowKit
set_option linter.unusedVariables false
set_option linter.unusedSimpArgs false
set_option maxRecDepth 100000

section
variable {H : Type} {enc : TypeId × Value → H} {W : World} {base : Nat} {spare : Nat → Bool} {held : Bool}
theorem spans_cap {b0 : Nat} {v : Value} {d : DataW H} {p : List MemPlace} {ss : List Spn} (hv : Value.okWide Tryz.prog W .any b0 25 v) (h : DataW.Trod enc Tryz.prog W base spare held 25 v d p) (hs : SpsReads W v ss) :
    ∃ A c, v = .slice A ss.length c ∧ ss.length ≤ c ∧ c ≤ 9223372036854775807 := by
  obtain ⟨A, c, rfl, _⟩ := hs
  obtain ⟨fuel, hf⟩ := h
  rcases DataW.trod_slice Tryz.underlying25 hf with ⟨hcs, hx⟩ | ⟨a, len, cap, elems, rest, m, _, hcs, hx, hb, hl, hm, hlen, hels, _⟩
  · simp [Value.cells] at hcs
    obtain ⟨rfl, h0, rfl⟩ := hcs
    exact ⟨none, 0, rfl, by simp [h0], by omega⟩
  · simp [Value.cells] at hcs
    obtain ⟨rfl, h0, rfl⟩ := hcs
    unfold maxLen at hm
    exact ⟨_, _, rfl, by omega, by omega⟩
theorem open_bytes26 {b0 : Nat} {v : Value} {d : DataW H} {p : List MemPlace} (hv : Value.okWide Tryz.prog W .any b0 26 v) (h : DataW.Trod enc Tryz.prog W base spare held 26 v d p) :
    ∃ b : List Int, RdsB W v b ∧ Bytes b ∧ (b = [] ∨ ∃ e s : List (DataW H), d = .slice e s ∧ b.length ≤ e.length) ∧ ∃ A c, v = .slice A b.length c ∧ b.length ≤ c ∧ c ≤ 9223372036854775807 := by
  obtain ⟨A, len0, cap0, rfl⟩ := okWide_slice Tryz.underlying26 hv
  obtain ⟨fuel, hf⟩ := h
  rcases open_ints Tryz.underlying26 Tryz.underlying5 (by kernel_rfl) hf with ⟨hcs, hx⟩ | ⟨a, len, cap, zs, hcs, _, hl, hm, hz, hx, hcell, hwz⟩
  · simp [Value.cells] at hcs
    obtain ⟨rfl, rfl, rfl⟩ := hcs
    exact ⟨[], ⟨none, 0, rfl, ⟨fun _ => rfl, Nat.le_refl _⟩, fun h => by simp at h⟩, (fun x hx => by cases hx), .inl rfl, none, 0, rfl, Nat.le_refl _, by omega⟩
  · simp [Value.cells] at hcs
    obtain ⟨rfl, rfl, rfl⟩ := hcs
    unfold maxLen at hm
    have hzl : len0 ≤ zs.length := by rw [hz]; split <;> omega
    have hl2 : (zs.take len0).length = len0 := by rw [List.length_take]; omega
    refine ⟨zs.take len0, ⟨some a, cap0, by rw [hl2], ⟨fun e => (by cases e), by omega⟩, fun h0 => ?_⟩, fun x hx => ?_, .inr ⟨_, _, congrArg Prod.fst hx, by simp [lits]⟩, some a, cap0, by rw [hl2], by omega, by omega⟩
    · rw [hl2] at h0
      obtain ⟨b, off, spot⟩ := a
      have hspot : spot = none := by simpa [Addr.add] using World.cell?_spot (hcell 0 (by omega))
      subst hspot
      refine ⟨b, off, rfl, fun j x hj => ?_⟩
      rw [List.getElem?_take] at hj
      split at hj
      · have hc := hcell j (by omega)
        rw [add_lit', List.getD_eq_getElem?_getD, hj] at hc
        exact hc
      · cases hj
    · have := hwz x (List.mem_of_mem_take hx)
      have h2 : 0 ≤ x ∧ x ≤ 255 := by simpa [Lit.wf, IntKind.min, IntKind.max, IntKind.signed, IntKind.bits] using this
      exact ⟨h2.1, by omega⟩
theorem open_int3 {b0 : Nat} {v : Value} {d : DataW H} {p : List MemPlace} (hv : Value.okWide Tryz.prog W .any b0 3 v) (h : DataW.Trod enc Tryz.prog W base spare held 3 v d p) : ∃ n : Int, v = .int .i64 n ∧ -9223372036854775808 ≤ n ∧ n ≤ 9223372036854775807 := by
  obtain ⟨n, rfl, _, _, w1⟩ := open_int Tryz.underlying3 hv h
  have := range_i64 w1
  exact ⟨n, rfl, by omega⟩
end
end Go.Proofs.YtlcbgklealipoaaGreatDoor
