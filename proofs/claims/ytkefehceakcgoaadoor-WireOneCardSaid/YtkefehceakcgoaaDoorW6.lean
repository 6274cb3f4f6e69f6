/- Asks that came in, in a list. -/
import Derived.Test.YtkefehceakcgoaaDoorV14
import Derived.Test.YtkefehceakcgoaaDoorW5
namespace Go.Proofs.YtkefehceakcgoaaDoor
open Go.ChangeShapes Go.WideShapes Go.ChangeAt Go.RowKit
set_option linter.unusedVariables false
set_option linter.unusedSimpArgs false

theorem Tryd.cells47 : Tryd.prog.cellsOf 47 = 2 := by kernel_rfl
theorem Tryd.bytes47 : Tryd.prog.bytesOf 47 = 16 := by kernel_rfl
set_option maxRecDepth 100000 in
theorem ask_cells {H : Type} {enc : TypeId × Value → H} {W : World} {base n : Nat} {held : Bool} {cs : List Value} {y : DataW H × List MemPlace} (h : DataW.trod enc Tryd.prog W base (fun _ => true) held n 47 cs = some y) :
    ∃ q : Ask, cs = q.cells ∧ q.ok := by
  obtain ⟨y0, y1, m, rfl, hl2, h0, h1⟩ := trod_struct2 Tryd.underlying47 h
  rw [Tryd.cells47] at hl2
  obtain ⟨c0, c1, rfl⟩ : ∃ a b, cs = [a, b] := by
    match cs, hl2 with
    | [a, b], _ => exact ⟨a, b, rfl⟩
  clear hl2
  have h0' : DataW.trod enc Tryd.prog W base (fun _ => true) held m 3 [c0] = some y0 := h0
  have h1' : DataW.trod enc Tryd.prog W base (fun _ => true) held m 3 [c1] = some y1 := h1
  obtain ⟨k, e0, rfl, wk⟩ := DataW.trod_int Tryd.underlying3 h0'
  obtain ⟨j, e1, rfl, wj⟩ := DataW.trod_int Tryd.underlying3 h1'
  simp at e0 e1
  subst e0 e1
  have xk : -9223372036854775808 ≤ k ∧ k ≤ 9223372036854775807 := by simpa [Lit.wf, IntKind.min, IntKind.max, IntKind.signed, IntKind.bits] using wk
  have xj : -9223372036854775808 ≤ j ∧ j ≤ 9223372036854775807 := by simpa [Lit.wf, IntKind.min, IntKind.max, IntKind.signed, IntKind.bits] using wj
  exact ⟨⟨k, j⟩, rfl, ⟨xk.1, by simp only; omega, xj.1, by simp only; omega⟩⟩
set_option maxRecDepth 100000 in
theorem open_asks {H : Type} {enc : TypeId × Value → H} {W : World} {b0 base : Nat} {held : Bool} {v : Value} {d : DataW H} {p : List MemPlace} (hv : Value.okWide Tryd.prog W .any b0 45 v) (h : DataW.Trod enc Tryd.prog W base (fun _ => true) held 45 v d p)
    (hw : ∀ n ∈ d.weights Tryd.prog 45, n ≤ reachBytes) :
    ∃ qs : List Ask, AsReads W v qs ∧ (∀ q ∈ qs, q.ok) ∧ qs.length ≤ 140737488351232 := by
  obtain ⟨A, len0, cap0, rfl⟩ := okWide_slice Tryd.underlying45 hv
  obtain ⟨fuel, hf⟩ := h
  rcases DataW.trod_slice Tryd.underlying45 hf with ⟨hcs, hx⟩ | ⟨a, len, cap, elems, rest, n, _, hcs, hx, hb, hl, hm, hlen, hel, _⟩
  · simp [Value.cells] at hcs
    obtain ⟨rfl, rfl, rfl⟩ := hcs
    exact ⟨[], ⟨none, 0, rfl, fun h => by simp at h⟩, fun q hq => by (cases hq), by simp⟩
  · simp [Value.cells] at hcs
    obtain ⟨rfl, rfl, rfl⟩ := hcs
    have hx1 := congrArg Prod.fst hx
    simp only at hx1
    subst hx1
    have each : ∀ i, i < len0 → ∃ q : Ask, (∀ j u, q.cells[j]? = some u → W.cell? ((a.add (i * 2)).add j) = some u) ∧ q.ok := by
      intro i hi
      have h1 := hel i hi
      obtain ⟨y, hy⟩ : ∃ y, elems[i]? = some y := ⟨_, List.getElem?_eq_getElem (by omega)⟩
      rw [hy, Tryd.cells47] at h1
      obtain ⟨cs, hc, ht⟩ := Option.bind_eq_some_iff.1 h1
      obtain ⟨_, hcl, hcell⟩ := World.cells?_some hc
      obtain ⟨q, rfl, g1⟩ := ask_cells ht
      refine ⟨q, fun j u hu => ?_, g1⟩
      have hj : j < 2 := by
        have := (List.getElem?_eq_some_iff.1 hu).1
        simpa [Ask.cells] using this
      have := hcell j hj
      rw [hu] at this
      exact this
    obtain ⟨qs, hq, hqs⟩ := exists_list len0 each
    refine ⟨qs, ⟨some a, cap0, by rw [hq], fun h0 => ?_⟩, fun q hmem => ?_, ?_⟩
    · obtain ⟨b, off, spot⟩ := a
      obtain ⟨q0, hq0⟩ : ∃ q0, qs[0]? = some q0 := ⟨_, List.getElem?_eq_getElem h0⟩
      obtain ⟨hc0, _⟩ := hqs 0 q0 hq0
      have hspot : spot = none := by simpa [Addr.add] using World.cell?_spot (hc0 0 _ rfl)
      subst hspot
      refine ⟨b, off, rfl, fun i q hi => ?_⟩
      obtain ⟨hc, _⟩ := hqs i q hi
      have g0 := hc 0 _ rfl
      have g1 := hc 1 _ rfl
      simp only [add_lit', Nat.add_zero] at g0 g1
      exact ⟨g0, g1⟩
    · obtain ⟨i, hi, rfl⟩ := List.getElem_of_mem hmem
      exact (hqs i _ (List.getElem?_eq_getElem hi)).2
    · have := hw (((elems.map (·.1)).length + (rest.map (·.1)).length) * Tryd.prog.bytesOf 47) (by simp only [DataW.weights, Tryd.underlying45, List.mem_cons]; exact .inl trivial)
      rw [Tryd.bytes47, List.length_map] at this
      unfold reachBytes at this
      omega
end Go.Proofs.YtkefehceakcgoaaDoor
