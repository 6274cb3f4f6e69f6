/- Parts that came in, in a list. -/
import Derived.Test.YtkefehceakcgoaaDoorRows
import Derived.Test.YtkefehceakcgoaaDoorV13
import Derived.Lib.SmallJoins
import Derived.Deep.Strs
import Derived.ChangeOld
import Derived.SizedLaws
namespace Go.Proofs.YtkefehceakcgoaaDoor
open Go.ChangeShapes Go.WideShapes Go.ChangeAt Go.RowKit
set_option linter.unusedVariables false
set_option linter.unusedSimpArgs false

theorem trod_struct5 {H : Type} {enc : TypeId × Value → H} {P : Program} {w : World} {base : Nat} {spare : Nat → Bool} {held : Bool} {t : TypeId} {f0 f1 f2 f3 f4 : Field} {fuel : Nat} {cs : List Value} {x : DataW H × List MemPlace} (ht : P.underlying t = some (.struct #[f0, f1, f2, f3, f4])) (h : DataW.trod enc P w base spare held fuel t cs = some x) :
    ∃ y0 y1 y2 y3 y4 n, x = (.agg [y0.1, y1.1, y2.1, y3.1, y4.1], y0.2 ++ (y1.2 ++ (y2.2 ++ (y3.2 ++ y4.2)))) ∧ cs.length = P.cellsOf t ∧ DataW.trod enc P w base spare held n f0.type ((cs.drop f0.offset).take (P.cellsOf f0.type)) = some y0 ∧
      DataW.trod enc P w base spare held n f1.type ((cs.drop f1.offset).take (P.cellsOf f1.type)) = some y1 ∧ DataW.trod enc P w base spare held n f2.type ((cs.drop f2.offset).take (P.cellsOf f2.type)) = some y2 ∧
      DataW.trod enc P w base spare held n f3.type ((cs.drop f3.offset).take (P.cellsOf f3.type)) = some y3 ∧ DataW.trod enc P w base spare held n f4.type ((cs.drop f4.offset).take (P.cellsOf f4.type)) = some y4 := by
  obtain ⟨xs, n, _, rfl, hl, hlen, hf⟩ := DataW.trod_struct ht h
  match xs, hlen with
  | [y0, y1, y2, y3, y4], _ => exact ⟨y0, y1, y2, y3, y4, n, by simp, hl, by simpa using hf 0 f0 rfl, by simpa using hf 1 f1 rfl, by simpa using hf 2 f2 rfl, by simpa using hf 3 f3 rfl, by simpa using hf 4 f4 rfl⟩
theorem exists_list {α : Type} {P : Nat → α → Prop} : ∀ n : Nat, (∀ i, i < n → ∃ x, P i x) → ∃ l : List α, l.length = n ∧ ∀ (i : Nat) x, l[i]? = some x → P i x := by
  intro n
  induction n with
  | zero => exact fun _ => ⟨[], rfl, fun i x h => by simp at h⟩
  | succ n ih =>
    intro h
    obtain ⟨l, hl, hp⟩ := ih fun i hi => h i (by omega)
    obtain ⟨x, hx⟩ := h n (by omega)
    refine ⟨l ++ [x], by simp [hl], fun i y hy => ?_⟩
    rcases Nat.lt_or_ge i l.length with hi | hi
    · rw [List.getElem?_append_left hi] at hy
      exact hp i y hy
    · rw [List.getElem?_append_right hi] at hy
      rcases hr : i - l.length with _ | r
      · rw [hr] at hy
        simp at hy
        subst hy
        obtain rfl : i = n := by omega
        exact hx
      · rw [hr] at hy; simp at hy
theorem add_lit' (b off j : Nat) : (⟨b, off, none⟩ : Addr).add j = ⟨b, off + j, none⟩ := by unfold Addr.add; split <;> simp_all
theorem weights_all {H : Type} {P : Program} {e : TypeId} : ∀ {l : List (DataW H)} {d : DataW H}, d ∈ l → ∀ n ∈ d.weights P e, n ∈ DataW.weightsAll P e l
  | x :: r, d, hd, n, hn => by
    simp only [DataW.weightsAll, List.mem_append]
    rcases List.mem_cons.1 hd with rfl | h
    · exact .inl hn
    · exact .inr (weights_all h n hn)
theorem Tryd.cells28 : Tryd.prog.cellsOf 28 = 5 := by kernel_rfl
theorem Tryd.bytes28 : Tryd.prog.bytesOf 28 = 48 := by kernel_rfl


set_option maxRecDepth 100000 in
theorem part_cells {H : Type} {enc : TypeId × Value → H} {W : World} {base n : Nat} {held : Bool} {cs : List Value} {y : DataW H × List MemPlace} (h : DataW.trod enc Tryd.prog W base (fun _ => true) held n 28 cs = some y) :
    ∃ q : Prt, cs = q.cells ∧ q.ok ∧ q.s.length ∈ y.1.weights Tryd.prog 28 := by
  obtain ⟨y0, y1, y2, y3, y4, m, rfl, hl5, h0, h1, h2, h3, h4⟩ := trod_struct5 Tryd.underlying28 h
  rw [Tryd.cells28] at hl5
  obtain ⟨c0, c1, c2, c3, c4, rfl⟩ : ∃ a b c d e, cs = [a, b, c, d, e] := by
    match cs, hl5 with
    | [a, b, c, d, e], _ => exact ⟨a, b, c, d, e, rfl⟩
  clear hl5
  have h0' : DataW.trod enc Tryd.prog W base (fun _ => true) held m 3 [c0] = some y0 := h0
  have h1' : DataW.trod enc Tryd.prog W base (fun _ => true) held m 3 [c1] = some y1 := h1
  have h2' : DataW.trod enc Tryd.prog W base (fun _ => true) held m 26 [c2] = some y2 := h2
  have h3' : DataW.trod enc Tryd.prog W base (fun _ => true) held m 2 [c3] = some y3 := h3
  have h4' : DataW.trod enc Tryd.prog W base (fun _ => true) held m 9 [c4] = some y4 := h4
  obtain ⟨k, e0, rfl, wk⟩ := DataW.trod_int Tryd.underlying3 h0'
  obtain ⟨j, e1, rfl, wj⟩ := DataW.trod_int Tryd.underlying3 h1'
  obtain ⟨u, e2, rfl, wu⟩ := DataW.trod_int Tryd.underlying26 h2'
  obtain ⟨i, e3, rfl, wi⟩ := DataW.trod_int Tryd.underlying2 h3'
  obtain ⟨s, e4, rfl, ws⟩ := DataW.trod_string Tryd.underlying9 h4'
  simp at e0 e1 e2 e3 e4
  subst e0 e1 e2 e3 e4
  have xk : -9223372036854775808 ≤ k ∧ k ≤ 9223372036854775807 := by simpa [Lit.wf, IntKind.min, IntKind.max, IntKind.signed, IntKind.bits] using wk
  have xj : -9223372036854775808 ≤ j ∧ j ≤ 9223372036854775807 := by simpa [Lit.wf, IntKind.min, IntKind.max, IntKind.signed, IntKind.bits] using wj
  have xu : 0 ≤ u ∧ u ≤ 18446744073709551615 := by simpa [Lit.wf, IntKind.min, IntKind.max, IntKind.signed, IntKind.bits] using wu
  have xi : -9223372036854775808 ≤ i ∧ i ≤ 9223372036854775807 := by simpa [Lit.wf, IntKind.min, IntKind.max, IntKind.signed, IntKind.bits] using wi
  obtain ⟨t, rfl⟩ : ∃ t : Nat, u = t := ⟨u.toNat, by omega⟩
  refine ⟨⟨k, j, t, i, octs s⟩, ?_, ⟨xk.1, by simp only; omega, xj.1, by simp only; omega, by simp only; omega, xi.1, by simp only; omega, octs_bytes s⟩, ?_⟩
  · simp only [Prt.cells, strOfNums_octs]
  · simp only [DataW.weights, Tryd.underlying28]
    simp [DataW.weightsEach, DataW.weights, octs]

set_option maxRecDepth 100000 in
theorem open_parts {H : Type} {enc : TypeId × Value → H} {W : World} {b0 base : Nat} {held : Bool} {v : Value} {d : DataW H} {p : List MemPlace} (hv : Value.okWide Tryd.prog W .any b0 22 v) (h : DataW.Trod enc Tryd.prog W base (fun _ => true) held 22 v d p)
    (hw : ∀ n ∈ d.weights Tryd.prog 22, n ≤ reachBytes) :
    ∃ qs : List Prt, QsReads W v qs ∧ (∀ q ∈ qs, q.ok ∧ q.s.length ≤ 140737488351232) ∧ qs.length ≤ 140737488351232 := by
  obtain ⟨A, len0, cap0, rfl⟩ := okWide_slice Tryd.underlying22 hv
  obtain ⟨fuel, hf⟩ := h
  rcases DataW.trod_slice Tryd.underlying22 hf with ⟨hcs, hx⟩ | ⟨a, len, cap, elems, rest, n, _, hcs, hx, hb, hl, hm, hlen, hel, _⟩
  · simp [Value.cells] at hcs
    obtain ⟨rfl, rfl, rfl⟩ := hcs
    exact ⟨[], ⟨none, 0, rfl, fun h => by simp at h⟩, fun q hq => by (cases hq), by simp⟩
  · simp [Value.cells] at hcs
    obtain ⟨rfl, rfl, rfl⟩ := hcs
    have hx1 := congrArg Prod.fst hx
    simp only at hx1
    subst hx1
    have each : ∀ i, i < len0 → ∃ q : Prt, ∃ y : DataW H × List MemPlace, elems[i]? = some y ∧ (∀ j u, q.cells[j]? = some u → W.cell? ((a.add (i * 5)).add j) = some u) ∧ q.ok ∧ q.s.length ∈ y.1.weights Tryd.prog 28 := by
      intro i hi
      have h1 := hel i hi
      obtain ⟨y, hy⟩ : ∃ y, elems[i]? = some y := ⟨_, List.getElem?_eq_getElem (by omega)⟩
      rw [hy, Tryd.cells28] at h1
      obtain ⟨cs, hc, ht⟩ := Option.bind_eq_some_iff.1 h1
      obtain ⟨_, hcl, hcell⟩ := World.cells?_some hc
      obtain ⟨q, rfl, g1, g2⟩ := part_cells ht
      refine ⟨q, y, hy, fun j u hu => ?_, g1, g2⟩
      have hj : j < 5 := by
        have := (List.getElem?_eq_some_iff.1 hu).1
        simpa [Prt.cells] using this
      have := hcell j hj
      rw [hu] at this
      exact this
    obtain ⟨qs, hq, hqs⟩ := exists_list len0 each
    refine ⟨qs, ⟨some a, cap0, by rw [hq], fun h0 => ?_⟩, fun q hmem => ?_, ?_⟩
    · obtain ⟨b, off, spot⟩ := a
      obtain ⟨q0, hq0⟩ : ∃ q0, qs[0]? = some q0 := ⟨_, List.getElem?_eq_getElem h0⟩
      obtain ⟨y0, _, hc0, _⟩ := hqs 0 q0 hq0
      have hspot : spot = none := by simpa [Addr.add] using World.cell?_spot (hc0 0 _ rfl)
      subst hspot
      refine ⟨b, off, rfl, fun i q hi => ?_⟩
      obtain ⟨y, _, hc, _⟩ := hqs i q hi
      have g0 := hc 0 _ rfl
      have g1 := hc 1 _ rfl
      have g2 := hc 2 _ rfl
      have g3 := hc 3 _ rfl
      have g4 := hc 4 _ rfl
      simp only [add_lit', Nat.add_zero] at g0 g1 g2 g3 g4
      exact ⟨g0, g1, g2, g3, g4⟩
    · obtain ⟨i, hi, rfl⟩ := List.getElem_of_mem hmem
      obtain ⟨y, hy, _, g1, g2⟩ := hqs i _ (List.getElem?_eq_getElem hi)
      refine ⟨g1, ?_⟩
      have hmem2 : y.1 ∈ elems.map (·.1) := List.mem_map_of_mem (List.mem_of_getElem? hy)
      have hin := weights_all hmem2 _ g2
      have := hw (qs[i]).s.length (by simp only [DataW.weights, Tryd.underlying22, List.mem_cons, List.mem_append]; exact .inr (.inl hin))
      exact Nat.le_trans this (by decide)
    · have := hw (((elems.map (·.1)).length + (rest.map (·.1)).length) * Tryd.prog.bytesOf 28) (by simp only [DataW.weights, Tryd.underlying22, List.mem_cons]; exact .inl trivial)
      rw [Tryd.bytes28, List.length_map] at this
      unfold reachBytes at this
      omega
end Go.Proofs.YtkefehceakcgoaaDoor
