/- Parcels that came in, in a list. -/
import Derived.Test.YtoolimfdncfgnaaRows
import Derived.Test.YtoolimfdncfgnaaF1
import Derived.Lib.SmallJoins
import Derived.Deep.Strs
import Derived.ChangeOld
namespace Go.Proofs.Ytoolimfdncfgnaa
open Go.ChangeShapes Go.WideShapes Go.ChangeAt Go.RowKit
set_option linter.unusedVariables false
set_option linter.unusedSimpArgs false

theorem exists_list {α : Type} {P : Nat → α → Prop} : ∀ n : Nat, (∀ i, i < n → ∃ x, P i x) → ∃ l : List α, l.length = n ∧ ∀ (i : Nat) x, l[i]? = some x → P i x := by
  intro n
  induction n with
  | zero => exact fun _ => ⟨[], rfl, fun i x h => by simp at h⟩
  | succ n ih =>
    intro h
    obtain ⟨l, hl, hp⟩ := ih fun i hi => h i (by omega)
    obtain ⟨x, hx⟩ := h n (by omega)
    refine ⟨l ++ [x], by simp [hl], fun i y hy => ?_⟩
    rcases Nat.lt_or_ge i l.length with hi | hi
    · rw [List.getElem?_append_left hi] at hy
      exact hp i y hy
    · rw [List.getElem?_append_right hi] at hy
      rcases hr : i - l.length with _ | r
      · rw [hr] at hy
        simp at hy
        subst hy
        obtain rfl : i = n := by omega
        exact hx
      · rw [hr] at hy; simp at hy
theorem bulk_one {H : Type} (d : DataW H) : 1 ≤ Rows.uptoBulk d := by
  cases d with
  | lit l => cases l <;> simp [Rows.uptoBulk]
  | _ => simp [Rows.uptoBulk]
theorem bulk_part {H : Type} {d : DataW H} {l : List (DataW H)} (h : d ∈ l) : Rows.uptoBulk d ≤ Rows.uptoBulkAll l := by
  induction l with
  | nil => cases h
  | cons x r ih =>
    simp only [Rows.uptoBulkAll]
    cases List.mem_cons.1 h with
    | inl e => subst e; omega
    | inr e => have := ih e; omega
theorem bulk_length {H : Type} (l : List (DataW H)) : l.length ≤ Rows.uptoBulkAll l := by
  induction l with
  | nil => simp [Rows.uptoBulkAll]
  | cons x r ih => have := bulk_one x; simp only [Rows.uptoBulkAll, List.length_cons]; omega
theorem bulk_slice {H : Type} (elems spare : List (DataW H)) : elems.length + spare.length + 1 ≤ Rows.uptoBulk (.slice elems spare) := by
  have h1 := bulk_length elems
  have h2 := bulk_length spare
  simp only [Rows.uptoBulk]
  omega
theorem bulk_frames {H : Type} : ∀ (qs : List Par) (ds : List (DataW H)), qs.length = ds.length → (∀ (i : Nat) q d, qs[i]? = some q → ds[i]? = some d → 24 + q.p.length ≤ 24 * Rows.uptoBulk d) → (frames qs).length ≤ 24 * Rows.uptoBulkAll ds := by
  intro qs
  induction qs with
  | nil => intro ds _ _; simp [frames]
  | cons q qs ih =>
    intro ds hl h
    cases ds with
    | nil => simp at hl
    | cons d ds =>
      have h0 := h 0 q d rfl rfl
      have h1 := ih ds (by simpa using hl) (fun i x y hx hy => h (i + 1) x y (by simpa using hx) (by simpa using hy))
      rw [frames_cons, List.length_append, Par.frame_len]
      simp only [Rows.uptoBulkAll]
      omega
theorem Try.cells31' : Try.prog.cellsOf 31 = 3 := by kernel_rfl

/-- A parcel's cells. -/
theorem parcel_cells {H : Type} {enc : TypeId × Value → H} {W : World} {base n : Nat} {held : Bool} {cs : List Value} {y : DataW H × List MemPlace} (h : DataW.trod enc Try.prog W base (fun _ => true) held n 31 cs = some y) :
    ∃ (q : Par) (P : Option Addr) (cp : Nat), cs = [.int .i64 q.k, .int .u64 q.s, .slice P q.p.length cp] ∧ cp ≤ 9223372036854775807 ∧ q.s < 18446744073709551616 ∧ -9223372036854775808 ≤ q.k ∧ q.k ≤ 9223372036854775807 ∧ Bytes q.p ∧ Reads W (.slice P q.p.length cp) q.p ∧ 24 + q.p.length ≤ 24 * Rows.uptoBulk y.1 ∧ q.p.length + 1 ≤ Rows.uptoBulk y.1 := by
  obtain ⟨y0, y1, y2, m, rfl, hl3, h0, h1, h2⟩ := Go.Deep.trod_struct3 Try.underlying31 h
  rw [Try.cells31'] at hl3
  obtain ⟨c0, c1, c2, rfl⟩ : ∃ a b c, cs = [a, b, c] := by
    match cs, hl3 with
    | [a, b, c], _ => exact ⟨a, b, c, rfl⟩
  clear hl3
  have h0' : DataW.trod enc Try.prog W base (fun _ => true) held m 3 [c0] = some y0 := h0
  have h1' : DataW.trod enc Try.prog W base (fun _ => true) held m 29 [c1] = some y1 := h1
  have h2' : DataW.trod enc Try.prog W base (fun _ => true) held m 25 [c2] = some y2 := h2
  obtain ⟨k, e0, rfl, wk⟩ := DataW.trod_int Try.underlying3 h0'
  obtain ⟨s, e1, rfl, ws⟩ := DataW.trod_int Try.underlying29 h1'
  simp at e0 e1
  subst e0 e1
  have xk : -9223372036854775808 ≤ k ∧ k ≤ 9223372036854775807 := by simpa [Lit.wf, IntKind.min, IntKind.max, IntKind.signed, IntKind.bits] using wk
  have xs : 0 ≤ s ∧ s ≤ 18446744073709551615 := by simpa [Lit.wf, IntKind.min, IntKind.max, IntKind.signed, IntKind.bits] using ws
  obtain ⟨t, rfl⟩ : ∃ t : Nat, s = t := ⟨s.toNat, by omega⟩
  rcases open_ints Try.underlying25 Try.underlying5 (by kernel_rfl) h2' with ⟨hcs, hx⟩ | ⟨x, l, c, zs, hcs, _, hl, hm, hz, hx, hcell, hwz⟩
  · simp at hcs
    subst hcs
    have := bulk_one y2.1
    refine ⟨⟨k, t, []⟩, none, 0, rfl, by omega, by simp only; omega, xk.1, xk.2, fun x hx => (by cases hx), ?_, ?_, ?_⟩
    · exact ⟨none, 0, rfl, ⟨fun _ => rfl, Nat.le_refl _⟩, fun j u hu => by simp [nums] at hu⟩
    · simp only [Rows.uptoBulk, Rows.uptoBulkAll, List.length_nil]; omega
    · simp only [Rows.uptoBulk, Rows.uptoBulkAll, List.length_nil]; omega
  · simp at hcs
    subst hcs
    simp at hz
    obtain ⟨p, hp, hb, hr, hcm, hpz⟩ := reads_of_row (w := W) (a := some x) (len := l) (cap := c) (zs := zs) (.inr ⟨x, rfl, hl, hm, hz, hcell, hwz⟩)
    subst hp
    have hL : (lits IntKind.u8 (zs.take p.length) : List (DataW H)).length + (lits IntKind.u8 (zs.drop p.length) : List (DataW H)).length = zs.length := by
      simp only [lits, List.length_map, List.length_take, List.length_drop]
      omega
    have hsl := bulk_slice (H := H) (lits .u8 (zs.take p.length)) (lits .u8 (zs.drop p.length))
    have hx1 := congrArg Prod.fst hx
    simp only at hx1
    refine ⟨⟨k, t, p⟩, some x, c, rfl, by unfold maxLen at hcm; omega, by simp only; omega, xk.1, xk.2, hb, hr, ?_, ?_⟩
    · simp only [Rows.uptoBulk, Rows.uptoBulkAll] at hsl ⊢
      rw [hx1]
      simp only [Rows.uptoBulk, Rows.uptoBulkAll]
      omega
    · simp only [Rows.uptoBulk, Rows.uptoBulkAll] at hsl ⊢
      rw [hx1]
      simp only [Rows.uptoBulk, Rows.uptoBulkAll]
      omega

theorem open_parcels {H : Type} {enc : TypeId × Value → H} {W : World} {b0 base : Nat} {held : Bool} {v : Value} {d : DataW H} {p : List MemPlace} (hv : Value.okWide Try.prog W .any b0 56 v) (h : DataW.Trod enc Try.prog W base (fun _ => true) held 56 v d p) :
    ∃ qs : List Par, PsReads W v qs ∧ (∀ q ∈ qs, q.s < 18446744073709551616 ∧ Bytes q.p ∧ q.p.length + 1 ≤ Rows.uptoBulk d ∧ -9223372036854775808 ≤ q.k ∧ q.k ≤ 9223372036854775807) ∧ (frames qs).length ≤ 24 * Rows.uptoBulk d ∧ qs.length ≤ Rows.uptoBulk d := by
  obtain ⟨A, len0, cap0, rfl⟩ := okWide_slice Try.underlying56 hv
  obtain ⟨fuel, hf⟩ := h
  rcases DataW.trod_slice Try.underlying56 hf with ⟨hcs, hx⟩ | ⟨a, len, cap, elems, rest, n, _, hcs, hx, hb, hl, hm, hlen, hel, _⟩
  · simp [Value.cells] at hcs
    obtain ⟨rfl, rfl, rfl⟩ := hcs
    exact ⟨[], ⟨none, 0, rfl, fun h => by simp at h⟩, fun q hq => by (cases hq), by simp [frames], by simp⟩
  · simp [Value.cells] at hcs
    obtain ⟨rfl, rfl, rfl⟩ := hcs
    have hx1 := congrArg Prod.fst hx
    simp only at hx1
    subst hx1
    have each : ∀ i, i < len0 → ∃ q : Par, ∃ (P : Option Addr) (cp : Nat) (y : DataW H × List MemPlace), elems[i]? = some y ∧ W.cell? ((a.add (i * 3)).add 0) = some (.int .i64 q.k) ∧ W.cell? ((a.add (i * 3)).add 1) = some (.int .u64 q.s) ∧ W.cell? ((a.add (i * 3)).add 2) = some (.slice P q.p.length cp) ∧
        cp ≤ 9223372036854775807 ∧ q.s < 18446744073709551616 ∧ -9223372036854775808 ≤ q.k ∧ q.k ≤ 9223372036854775807 ∧ Bytes q.p ∧ Reads W (.slice P q.p.length cp) q.p ∧ 24 + q.p.length ≤ 24 * Rows.uptoBulk y.1 ∧ q.p.length + 1 ≤ Rows.uptoBulk y.1 := by
      intro i hi
      have h1 := hel i hi
      obtain ⟨y, hy⟩ : ∃ y, elems[i]? = some y := ⟨_, List.getElem?_eq_getElem (by omega)⟩
      rw [hy, Try.cells31'] at h1
      obtain ⟨cs, hc, ht⟩ := Option.bind_eq_some_iff.1 h1
      obtain ⟨_, hcl, hcell⟩ := World.cells?_some hc
      obtain ⟨q, P, cp, rfl, g1, g2, g3, g4, g5, g6, g7, g8⟩ := parcel_cells ht
      exact ⟨q, P, cp, y, hy, hcell 0 (by decide), hcell 1 (by decide), hcell 2 (by decide), g1, g2, g3, g4, g5, g6, g7, g8⟩
    obtain ⟨qs, hq, hqs⟩ := exists_list len0 each
    have hpart : ∀ (i : Nat) q, qs[i]? = some q → ∃ y : DataW H × List MemPlace, elems[i]? = some y ∧ Rows.uptoBulk y.1 ≤ Rows.uptoBulkAll (elems.map (·.1)) := fun i q hi => by
      obtain ⟨P, cp, y, hy, _⟩ := hqs i q hi
      exact ⟨y, hy, bulk_part (List.mem_map_of_mem (List.mem_of_getElem? hy))⟩
    refine ⟨qs, ⟨some a, cap0, by rw [hq], fun h0 => ?_⟩, fun q hmem => ?_, ?_, ?_⟩
    · obtain ⟨b, off, spot⟩ := a
      obtain ⟨q0, hq0⟩ : ∃ q0, qs[0]? = some q0 := ⟨_, List.getElem?_eq_getElem h0⟩
      obtain ⟨P0, cp0, y0, _, hc0, _⟩ := hqs 0 q0 hq0
      have hspot : spot = none := by simpa [Addr.add] using World.cell?_spot hc0
      subst hspot
      refine ⟨b, off, rfl, fun i q hi => ?_⟩
      obtain ⟨P, cp, y, _, g0, g1, g2, g3, _, _, _, _, g4, _⟩ := hqs i q hi
      simp only [add_lit', Nat.add_zero] at g0 g1 g2
      exact ⟨g0, g1, P, _, cp, g2, g3, rfl, g4⟩
    · obtain ⟨i, hi, rfl⟩ := List.getElem_of_mem hmem
      have hi' := List.getElem?_eq_getElem hi
      obtain ⟨P, cp, y, hy, _, _, _, _, g1, g2, g3, g4, _, _, g5⟩ := hqs i _ hi'
      obtain ⟨y', hy', hle⟩ := hpart i _ hi'
      rw [hy] at hy'
      injection hy' with hy'
      subst hy'
      refine ⟨g1, g4, ?_, g2, g3⟩
      simp only [Rows.uptoBulk]
      omega
    · have := bulk_frames qs (elems.map (·.1)) (by simp [hq, hlen]) (fun i q d hi hd => by
        obtain ⟨P, cp, y, hy, _, _, _, _, _, _, _, _, _, g, _⟩ := hqs i q hi
        rw [List.getElem?_map, hy] at hd
        simp at hd
        subst hd
        exact g)
      simp only [Rows.uptoBulk]
      omega
    · have := bulk_length (elems.map (·.1))
      simp only [Rows.uptoBulk]
      rw [List.length_map] at this
      omega
end Go.Proofs.Ytoolimfdncfgnaa
