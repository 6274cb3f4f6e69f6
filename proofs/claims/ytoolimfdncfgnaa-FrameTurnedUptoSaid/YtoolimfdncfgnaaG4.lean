/- A Turn that came in. -/
import Derived.Test.YtoolimfdncfgnaaF3
namespace Go.Proofs.Ytoolimfdncfgnaa
open Go.ChangeShapes Go.WideShapes Go.ChangeAt Go.RowKit
set_option linter.unusedVariables false
set_option linter.unusedSimpArgs false

theorem Try.cells65' : Try.prog.cellsOf 65 = 3 := by kernel_rfl
theorem open_turn {H : Type} {enc : TypeId × Value → H} {W : World} {b0 base : Nat} {held : Bool} {v : Value} {d : DataW H} {p : List MemPlace} (hv : Value.okWide Try.prog W .any b0 65 v) (h : DataW.Trod enc Try.prog W base (fun _ => true) held 65 v d p) :
    ∃ (x0 x1 : Int) (x2 : Nat), v = .agg #[.int .i64 x0, .int .i64 x1, .int .u32 x2] ∧ (-9223372036854775808 ≤ x0 ∧ x0 ≤ 9223372036854775807) ∧ (-9223372036854775808 ≤ x1 ∧ x1 ≤ 9223372036854775807) ∧ x2 < 4294967296 := by
  obtain ⟨v0, v1, v2, y0, y1, y2, n, rfl, -, -, h0, h1, h2⟩ := Joins.open_agg3 Try.underlying65 (by kernel_rfl) Try.cells65' hv h
  have h0' : DataW.trod enc Try.prog W base (fun _ => true) held n 3 [v0] = some y0 := h0
  have h1' : DataW.trod enc Try.prog W base (fun _ => true) held n 3 [v1] = some y1 := h1
  have h2' : DataW.trod enc Try.prog W base (fun _ => true) held n 26 [v2] = some y2 := h2
  obtain ⟨a, e0, -, wa⟩ := DataW.trod_int Try.underlying3 h0'
  obtain ⟨b, e1, -, wb⟩ := DataW.trod_int Try.underlying3 h1'
  obtain ⟨c, e2, -, wc⟩ := DataW.trod_int Try.underlying26 h2'
  simp at e0 e1 e2
  subst e0 e1 e2
  have xa : -9223372036854775808 ≤ a ∧ a ≤ 9223372036854775807 := by simpa [Lit.wf, IntKind.min, IntKind.max, IntKind.signed, IntKind.bits] using wa
  have xb : -9223372036854775808 ≤ b ∧ b ≤ 9223372036854775807 := by simpa [Lit.wf, IntKind.min, IntKind.max, IntKind.signed, IntKind.bits] using wb
  have xc : 0 ≤ c ∧ c ≤ 4294967295 := by simpa [Lit.wf, IntKind.min, IntKind.max, IntKind.signed, IntKind.bits] using wc
  obtain ⟨t, rfl⟩ : ∃ t : Nat, c = t := ⟨c.toNat, by omega⟩
  exact ⟨a, b, t, rfl, xa, xb, by omega⟩
end Go.Proofs.Ytoolimfdncfgnaa
