/- Spans that came in. -/
import Derived.Test.YtlcbgklealipoaaGreatDoorRows
import Derived.Test.YtlcbgklealipoaaGreatDoorZU
import Derived.Test.YtlcbgklealipoaaGreatDoorZA
import Derived.Test.YtlcbgklealipoaaGreatDoorZR
import Derived.Lib.SmallJoins
import Derived.Deep.Strs
import Derived.ChangeOld
import Derived.SizedLaws
namespace Go.Proofs.YtlcbgklealipoaaGreatDoor
open Go.ChangeShapes Go.WideShapes Go.ChangeAt Go.RowKit
set_option linter.unusedVariables false
set_option linter.unusedSimpArgs false

theorem exists_list {α : Type} {P : Nat → α → Prop} : ∀ n : Nat, (∀ i, i < n → ∃ x, P i x) → ∃ l : List α, l.length = n ∧ ∀ (i : Nat) x, l[i]? = some x → P i x := by
  intro n
  induction n with
  | zero => exact fun _ => ⟨[], rfl, fun i x h => by simp at h⟩
  | succ n ih =>
    intro h
    obtain ⟨l, hl, hp⟩ := ih fun i hi => h i (by omega)
    obtain ⟨x, hx⟩ := h n (by omega)
    refine ⟨l ++ [x], by simp [hl], fun i y hy => ?_⟩
    rcases Nat.lt_or_ge i l.length with hi | hi
    · rw [List.getElem?_append_left hi] at hy
      exact hp i y hy
    · rw [List.getElem?_append_right hi] at hy
      rcases hr : i - l.length with _ | r
      · rw [hr] at hy
        simp at hy
        subst hy
        obtain rfl : i = n := by omega
        exact hx
      · rw [hr] at hy; simp at hy
theorem add_lit' (b off j : Nat) : (⟨b, off, none⟩ : Addr).add j = ⟨b, off + j, none⟩ := by unfold Addr.add; split <;> simp_all
section
variable {H : Type} {enc : TypeId × Value → H} {W : World} {base n : Nat} {held : Bool} {spare : Nat → Bool}
theorem range_i64 {k : Int} (h : (Lit.int .i64 k).wf = true) : -9223372036854775808 ≤ k ∧ k < 9223372036854775808 := by
  have : -9223372036854775808 ≤ k ∧ k ≤ 9223372036854775807 := by simpa [Lit.wf, IntKind.min, IntKind.max, IntKind.signed, IntKind.bits] using h
  omega
theorem range_u64 {k : Int} (h : (Lit.int .u64 k).wf = true) : ∃ x : Nat, k = x ∧ x < 18446744073709551616 := by
  have : 0 ≤ k ∧ k ≤ 18446744073709551615 := by simpa [Lit.wf, IntKind.min, IntKind.max, IntKind.signed, IntKind.bits] using h
  exact ⟨k.toNat, by omega, by omega⟩
theorem Tryz.cells132 : Tryz.prog.cellsOf 132 = 4 := by kernel_rfl
theorem Tryz.cells130 : Tryz.prog.cellsOf 130 = 3 := by kernel_rfl
theorem Tryz.cells134 : Tryz.prog.cellsOf 134 = 2 := by kernel_rfl
theorem Tryz.cells68o : Tryz.prog.cellsOf 68 = 2 := by kernel_rfl
theorem Tryz.cells69 : Tryz.prog.cellsOf 69 = 1 := by kernel_rfl
theorem Tryz.cells76 : Tryz.prog.cellsOf 76 = 13 := by kernel_rfl
set_option maxRecDepth 100000 in
theorem atr_cells {cs : List Value} {y : DataW H × List MemPlace} (h : DataW.trod enc Tryz.prog W base spare held n 132 cs = some y) :
    ∃ q : Atr, cs = q.cells ∧ ((-9223372036854775808 ≤ q.k ∧ q.k < 9223372036854775808) ∧ -9223372036854775808 ≤ q.i ∧ q.i < 9223372036854775808) ∧ q.key.size ≤ 9223372036854775807 ∧ q.t.size ≤ 9223372036854775807 := by
  obtain ⟨y0, y1, m, rfl, hl, h0, h1⟩ := trod_struct2 Tryz.underlying132 h
  rw [Tryz.cells132] at hl
  obtain ⟨c0, c1, c2, c3, rfl⟩ : ∃ a b c d, cs = [a, b, c, d] := by
    match cs, hl with
    | [a, b, c, d], _ => exact ⟨a, b, c, d, rfl⟩
  clear hl
  have h0' : DataW.trod enc Tryz.prog W base spare held m 9 [c0] = some y0 := h0
  have h1' : DataW.trod enc Tryz.prog W base spare held m 130 [c1, c2, c3] = some y1 := h1
  obtain ⟨z0, z1, z2, m2, rfl, _, g0, g1, g2⟩ := Go.Deep.trod_struct3 Tryz.underlying130 h1'
  have g0' : DataW.trod enc Tryz.prog W base spare held m2 128 [c1] = some z0 := g0
  have g1' : DataW.trod enc Tryz.prog W base spare held m2 9 [c2] = some z1 := g1
  have g2' : DataW.trod enc Tryz.prog W base spare held m2 2 [c3] = some z2 := g2
  obtain ⟨s, e0, rfl, ws⟩ := DataW.trod_string Tryz.underlying9 h0'
  obtain ⟨k, e1, rfl, wk⟩ := DataW.trod_int Tryz.underlying128 g0'
  obtain ⟨t, e2, rfl, wt⟩ := DataW.trod_string Tryz.underlying9 g1'
  obtain ⟨i, e3, rfl, wi⟩ := DataW.trod_int Tryz.underlying2 g2'
  simp at e0 e1 e2 e3
  subst e0 e1 e2 e3
  unfold maxLen at ws wt
  exact ⟨⟨s, k, t, i⟩, rfl, ⟨range_i64 wk, range_i64 wi⟩, ws, wt⟩
set_option maxRecDepth 100000 in
theorem evt_cells {cs : List Value} {y : DataW H × List MemPlace} (h : DataW.trod enc Tryz.prog W base spare held n 134 cs = some y) :
    ∃ q : Evt, cs = q.cells ∧ (-9223372036854775808 ≤ q.at_ ∧ q.at_ < 9223372036854775808) ∧ q.n.size ≤ 9223372036854775807 := by
  obtain ⟨y0, y1, m, rfl, hl, h0, h1⟩ := trod_struct2 Tryz.underlying134 h
  rw [Tryz.cells134] at hl
  obtain ⟨c0, c1, rfl⟩ : ∃ a b, cs = [a, b] := by
    match cs, hl with
    | [a, b], _ => exact ⟨a, b, rfl⟩
  clear hl
  have h0' : DataW.trod enc Tryz.prog W base spare held m 2 [c0] = some y0 := h0
  have h1' : DataW.trod enc Tryz.prog W base spare held m 9 [c1] = some y1 := h1
  obtain ⟨k, e0, rfl, wk⟩ := DataW.trod_int Tryz.underlying2 h0'
  obtain ⟨s, e1, rfl, ws⟩ := DataW.trod_string Tryz.underlying9 h1'
  simp at e0 e1
  subst e0 e1
  unfold maxLen at ws
  exact ⟨⟨k, s⟩, rfl, range_i64 wk, ws⟩
/-- A list whose elements lie cell by cell. -/
theorem open_list {α : Type} {t e : TypeId} {cs : List Value} {y : DataW H × List MemPlace} (ht : Tryz.prog.underlying t = some (.slice e)) (sz : Nat) (hc : Tryz.prog.cellsOf e = sz) (hsz : 0 < sz) (C : α → List Value) (hC : ∀ x, (C x).length = sz) (P : α → Prop)
    (hel : ∀ m cs y, DataW.trod enc Tryz.prog W base spare held m e cs = some y → ∃ q, cs = C q ∧ P q) (h : DataW.trod enc Tryz.prog W base spare held n t cs = some y) :
    ∃ (v : Value) (l : List α), cs = [v] ∧ (∀ q ∈ l, P q) ∧ l.length ≤ 9223372036854775807 ∧ ∃ A c, v = .slice A l.length c ∧ (0 < l.length → ∃ b off, A = some ⟨b, off, none⟩ ∧ ∀ (i : Nat) x, l[i]? = some x → ∀ (j : Nat) u, (C x)[j]? = some u → W.cell? ⟨b, off + i * sz + j, none⟩ = some u) := by
  rcases DataW.trod_slice ht h with ⟨hcs, hx⟩ | ⟨a, len, cap, elems, rest, m, _, hcs, hx, hb, hl, hm, hlen, hels, _⟩
  · subst hcs
    exact ⟨_, [], rfl, fun q hq => (by cases hq), by simp, none, 0, rfl, fun h => by simp at h⟩
  · subst hcs
    have each : ∀ i, i < len → ∃ q : α, (∀ (j : Nat) u, (C q)[j]? = some u → W.cell? ((a.add (i * sz)).add j) = some u) ∧ P q := by
      intro i hi
      have h1 := hels i hi
      obtain ⟨y, hy⟩ : ∃ y, elems[i]? = some y := ⟨_, List.getElem?_eq_getElem (by omega)⟩
      rw [hy, hc] at h1
      obtain ⟨cs, hcc, ht⟩ := Option.bind_eq_some_iff.1 h1
      obtain ⟨_, hcl, hcell⟩ := World.cells?_some hcc
      obtain ⟨q, rfl, g1⟩ := hel _ _ _ ht
      refine ⟨q, fun j u hu => ?_, g1⟩
      have hj : j < sz := by
        have := (List.getElem?_eq_some_iff.1 hu).1
        rw [hC] at this
        exact this
      have := hcell j hj
      rw [hu] at this
      exact this
    obtain ⟨l, hq, hqs⟩ := exists_list len each
    unfold maxLen at hm
    refine ⟨_, l, rfl, fun q hmem => ?_, by omega, some a, cap, by rw [hq], fun h0 => ?_⟩
    · obtain ⟨i, hi, rfl⟩ := List.getElem_of_mem hmem
      exact (hqs i _ (List.getElem?_eq_getElem hi)).2
    · obtain ⟨b, off, spot⟩ := a
      obtain ⟨q0, hq0⟩ : ∃ q0, l[0]? = some q0 := ⟨_, List.getElem?_eq_getElem h0⟩
      obtain ⟨hc0, _⟩ := hqs 0 q0 hq0
      have hu : (C q0)[0]? = some ((C q0)[0]'(by rw [hC]; exact hsz)) := List.getElem?_eq_getElem _
      have hspot : spot = none := by simpa [Addr.add] using World.cell?_spot (hc0 0 _ hu)
      subst hspot
      refine ⟨b, off, rfl, fun i q hi j u hu => ?_⟩
      have := (hqs i q hi).1 j u hu
      rwa [add_lit', add_lit'] at this
theorem trod_fields {t : TypeId} {fs : Array Field} {fuel : Nat} {cs : List Value} {x : DataW H × List MemPlace} (ht : Tryz.prog.underlying t = some (.struct fs)) (h : DataW.trod enc Tryz.prog W base spare held fuel t cs = some x) :
    cs.length = Tryz.prog.cellsOf t ∧ ∃ m, ∀ (i : Nat) (f : Field), fs[i]? = some f → ∃ y, DataW.trod enc Tryz.prog W base spare held m f.type ((cs.drop f.offset).take (Tryz.prog.cellsOf f.type)) = some y := by
  obtain ⟨xs, m, _, rfl, hl, hlen, hf⟩ := DataW.trod_struct ht h
  refine ⟨hl, m, fun i f hi => ?_⟩
  have := hf i f hi
  have hi' : i < xs.length := by rw [hlen]; exact (Array.getElem?_eq_some_iff.1 hi).1
  rw [List.getElem?_eq_getElem hi'] at this
  exact ⟨_, this⟩
set_option maxRecDepth 100000 in
theorem span_cells {cs : List Value} {y : DataW H × List MemPlace} (h : DataW.trod enc Tryz.prog W base spare held n 76 cs = some y) :
    ∃ (s : Spn) (lv av ev : Value), cs = (s.cells lv av ev).toList ∧ SReads W s lv av ev ∧ Sized s ∧ Fits s := by
  obtain ⟨hl, m, hf⟩ := trod_fields Tryz.underlying76 h
  rw [Tryz.cells76] at hl
  obtain ⟨c0, c1, c2, c3, c4, c5, c6, c7, c8, c9, c10, c11, c12, rfl⟩ : ∃ a b c d e f g h i j k l o, cs = [a, b, c, d, e, f, g, h, i, j, k, l, o] := by
    match cs, hl with
    | [a, b, c, d, e, f, g, h, i, j, k, l, o], _ => exact ⟨a, b, c, d, e, f, g, h, i, j, k, l, o, rfl⟩
  obtain ⟨y0, h0⟩ := hf 0 _ rfl
  obtain ⟨y1, h1⟩ := hf 1 _ rfl
  obtain ⟨y2, h2⟩ := hf 2 _ rfl
  obtain ⟨y3, h3⟩ := hf 3 _ rfl
  obtain ⟨y4, h4⟩ := hf 4 _ rfl
  obtain ⟨y5, h5⟩ := hf 5 _ rfl
  obtain ⟨y6, h6⟩ := hf 6 _ rfl
  obtain ⟨y7, h7⟩ := hf 7 _ rfl
  obtain ⟨y8, h8⟩ := hf 8 _ rfl
  obtain ⟨y9, h9⟩ := hf 9 _ rfl
  obtain ⟨y10, h10⟩ := hf 10 _ rfl
  obtain ⟨y11, h11⟩ := hf 11 _ rfl
  clear hf h hl
  have h0' : DataW.trod enc Tryz.prog W base spare held m 68 [c0, c1] = some y0 := h0
  have h1' : DataW.trod enc Tryz.prog W base spare held m 69 [c2] = some y1 := h1
  have h2' : DataW.trod enc Tryz.prog W base spare held m 69 [c3] = some y2 := h2
  have h3' : DataW.trod enc Tryz.prog W base spare held m 70 [c4] = some y3 := h3
  have h4' : DataW.trod enc Tryz.prog W base spare held m 9 [c5] = some y4 := h4
  have h5' : DataW.trod enc Tryz.prog W base spare held m 9 [c6] = some y5 := h5
  have h6' : DataW.trod enc Tryz.prog W base spare held m 71 [c7] = some y6 := h6
  have h7' : DataW.trod enc Tryz.prog W base spare held m 72 [c8] = some y7 := h7
  have h8' : DataW.trod enc Tryz.prog W base spare held m 2 [c9] = some y8 := h8
  have h9' : DataW.trod enc Tryz.prog W base spare held m 2 [c10] = some y9 := h9
  have h10' : DataW.trod enc Tryz.prog W base spare held m 73 [c11] = some y10 := h10
  have h11' : DataW.trod enc Tryz.prog W base spare held m 74 [c12] = some y11 := h11
  clear h0 h1 h2 h3 h4 h5 h6 h7 h8 h9 h10 h11
  obtain ⟨z0, z1, m2, rfl, _, g0, g1⟩ := trod_struct2 Tryz.underlying68 h0'
  have g0' : DataW.trod enc Tryz.prog W base spare held m2 66 [c0] = some z0 := g0
  have g1' : DataW.trod enc Tryz.prog W base spare held m2 66 [c1] = some z1 := g1
  obtain ⟨hi, e0, rfl, w0⟩ := DataW.trod_int Tryz.underlying66 g0'
  obtain ⟨lo, e1, rfl, w1⟩ := DataW.trod_int Tryz.underlying66 g1'
  obtain ⟨id, e2, rfl, w2⟩ := DataW.trod_int Tryz.underlying69 h1'
  obtain ⟨par, e3, rfl, w3⟩ := DataW.trod_int Tryz.underlying69 h2'
  obtain ⟨svc, e5, rfl, w5⟩ := DataW.trod_string Tryz.underlying9 h4'
  obtain ⟨op, e6, rfl, w6⟩ := DataW.trod_string Tryz.underlying9 h5'
  obtain ⟨kind, e7, rfl, w7⟩ := DataW.trod_int Tryz.underlying71 h6'
  obtain ⟨st, e8, rfl, w8⟩ := DataW.trod_int Tryz.underlying72 h7'
  obtain ⟨start, e9, rfl, w9⟩ := DataW.trod_int Tryz.underlying2 h8'
  obtain ⟨fin, e10, rfl, w10⟩ := DataW.trod_int Tryz.underlying2 h9'
  obtain ⟨lv, ll, e4, lp, l0, lA, lc, rfl, hlc⟩ := open_list Tryz.underlying70 1 Tryz.cells69 (by omega) (fun x : Nat => [Value.int .u64 x]) (fun _ => rfl) (fun x => x < 18446744073709551616) (fun m cs y h => by
    obtain ⟨k, rfl, _, wk⟩ := DataW.trod_int Tryz.underlying69 h
    obtain ⟨x, rfl, hx⟩ := range_u64 wk
    exact ⟨x, rfl, hx⟩) h3'
  obtain ⟨av, al, e11, ap, a0, aA, ac, rfl, hac⟩ := open_list Tryz.underlying73 4 Tryz.cells132 (by omega) Atr.cells (fun _ => rfl) _ (fun m cs y h => atr_cells h) h10'
  obtain ⟨ev, el, e12, ep, ee0, eA, ec, rfl, hec⟩ := open_list Tryz.underlying74 2 Tryz.cells134 (by omega) Evt.cells (fun _ => rfl) _ (fun m cs y h => evt_cells h) h11'
  simp at e0 e1 e2 e3 e4 e5 e6 e7 e8 e9 e10 e11 e12
  subst e0 e1 e2 e3 e4 e5 e6 e7 e8 e9 e10 e11 e12
  obtain ⟨hi, rfl, r0⟩ := range_u64 w0
  obtain ⟨lo, rfl, r1⟩ := range_u64 w1
  obtain ⟨id, rfl, r2⟩ := range_u64 w2
  obtain ⟨par, rfl, r3⟩ := range_u64 w3
  unfold maxLen at w5 w6
  refine ⟨⟨hi, lo, id, par, ll, svc, op, kind, st, start, fin, al, el⟩, _, _, _, rfl, ⟨⟨lA, lc, rfl, fun h => ?_⟩, ⟨aA, ac, rfl, fun h => ?_⟩, ⟨eA, ec, rfl, fun h => ?_⟩, l0, a0, ee0⟩, ⟨w5, w6, fun x hx => (ap x hx).2, fun x hx => (ep x hx).2⟩,
    ⟨r0, r1, r2, r3, lp, range_i64 w7, range_i64 w8, range_i64 w9, range_i64 w10, fun x hx => (ap x hx).1, fun x hx => (ep x hx).1⟩⟩
  · obtain ⟨b, off, rfl, hh⟩ := hlc h
    exact ⟨b, off, rfl, fun i x hx => by simpa using hh i x hx 0 _ rfl⟩
  · obtain ⟨b, off, rfl, hh⟩ := hac h
    exact ⟨b, off, rfl, fun i x hx => ⟨hh i x hx 0 _ rfl, hh i x hx 1 _ rfl, hh i x hx 2 _ rfl, hh i x hx 3 _ rfl⟩⟩
  · obtain ⟨b, off, rfl, hh⟩ := hec h
    exact ⟨b, off, rfl, fun i x hx => ⟨hh i x hx 0 _ rfl, hh i x hx 1 _ rfl⟩⟩
set_option maxRecDepth 100000 in
theorem open_span {b0 : Nat} {v : Value} {d : DataW H} {p : List MemPlace} (hv : Value.okWide Tryz.prog W .any b0 76 v) (h : DataW.Trod enc Tryz.prog W base spare held 76 v d p) :
    ∃ (s : Spn) (lv av ev : Value), v = .agg (s.cells lv av ev) ∧ SReads W s lv av ev ∧ Sized s ∧ Fits s := by
  obtain ⟨cs, rfl, hsz⟩ := okWide_struct Tryz.underlying76 hv
  obtain ⟨fuel, hf⟩ := h
  obtain ⟨s, lv, av, ev, hcs, h1, h2, h3⟩ := span_cells hf
  have : cs = s.cells lv av ev := Array.toList_inj.1 (by simpa [Value.cells] using hcs)
  subst this
  exact ⟨s, lv, av, ev, rfl, h1, h2, h3⟩
set_option maxRecDepth 100000 in
/-- Spans that lie in a list. -/
theorem open_spans {b0 : Nat} {v : Value} {d : DataW H} {p : List MemPlace} (hv : Value.okWide Tryz.prog W .any b0 25 v) (h : DataW.Trod enc Tryz.prog W base spare held 25 v d p) : ∃ ss : List Spn, SpsReads W v ss ∧ ss.length ≤ 9223372036854775807 := by
  obtain ⟨A, len0, cap0, rfl⟩ := okWide_slice Tryz.underlying25 hv
  obtain ⟨fuel, hf⟩ := h
  obtain ⟨v', l, hcs, hp, hl, A', c', hv', hh⟩ := open_list (α := Spn × Value × Value × Value) Tryz.underlying25 13 Tryz.cells76 (by omega) (fun q => (q.1.cells q.2.1 q.2.2.1 q.2.2.2).toList) (fun _ => rfl) (fun q => SReads W q.1 q.2.1 q.2.2.1 q.2.2.2 ∧ Sized q.1 ∧ Fits q.1) (fun m cs y h => by
    obtain ⟨s, lv, av, ev, h1, h2⟩ := span_cells h
    exact ⟨(s, lv, av, ev), h1, h2⟩) hf
  simp [Value.cells] at hcs
  subst hcs
  refine ⟨l.map (·.1), ⟨A', c', by rw [hv', List.length_map], fun h0 => ?_⟩, by rw [List.length_map]; exact hl⟩
  rw [List.length_map] at h0
  obtain ⟨b, off, rfl, hq⟩ := hh h0
  refine ⟨b, off, rfl, fun i s hi => ?_⟩
  rw [List.getElem?_map] at hi
  obtain ⟨q, hq1, rfl⟩ := Option.map_eq_some_iff.1 hi
  refine ⟨q.2.1, q.2.2.1, q.2.2.2, fun j u hu => ?_, hp q (List.mem_of_getElem? hq1)⟩
  exact hq i q hq1 j u hu
end
end Go.Proofs.YtlcbgklealipoaaGreatDoor
