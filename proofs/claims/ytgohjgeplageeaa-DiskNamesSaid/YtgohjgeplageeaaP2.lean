/- A set of files; a file's twin: maps keyed by files. -/
import Derived.Test.YtgohjgeplageeaaP1
namespace Go.Proofs.Ytgohjgeplageeaa
open Go Go.RowKit
set_option linter.unusedVariables false
set_option linter.unusedSimpArgs false

def unitV : Value := .agg #[]
theorem Try.zero99 (w : World) : (zeroValue 99).run Try.prog w = .ok (.agg #[]) w := by kernel_rfl
/-- Block b is a map that holds the files X. -/
def PsAt (w : World) (b : Nat) (ad : Nat → Nat) (X : Nat → Prop) : Prop :=
  ∃ K, PmAt w b K ∧ (∀ g v, K g = some v → v = unitV ∧ ∃ i, X i ∧ g = ad i) ∧ (∀ i, X i → (K (ad i)).isSome = true)
section
variable {w w' : World} {b : Nat} {ad : Nat → Nat} {X : Nat → Prop}
theorem PsAt.kept {S : Nat → Prop} (h : PsAt w b ad X) (hk : Kept S w w') (hS : ¬ S b) : PsAt w' b ad X := by
  obtain ⟨K, h1, h2⟩ := h; exact ⟨K, h1.kept hk hS, h2⟩
theorem PsAt.lt (h : PsAt w b ad X) : b < w.heap.size := by obtain ⟨K, h1, h2⟩ := h; exact h1.lt
theorem PsAt.new (w : World) (ad : Nat → Nat) : PsAt (w.alloc (.map #[] 0)) w.heap.size ad fun _ => False :=
  ⟨_, PmAt.new w, (fun g v h => by cases h), fun i h => h.elim⟩
theorem PsAt.congr {Y : Nat → Prop} (h : PsAt w b ad X) (hXY : ∀ i, X i ↔ Y i) : PsAt w b ad Y := by
  obtain ⟨K, h1, h2, h3⟩ := h
  exact ⟨K, h1, fun g v hg => by obtain ⟨e, i, hi, e2⟩ := h2 g v hg; exact ⟨e, i, (hXY i).1 hi, e2⟩, fun i hi => h3 i ((hXY i).2 hi)⟩
theorem PsAt.put (h : PsAt w b ad X) (hs : ∀ i, X i → Solid w (ad i)) {i : Nat} (hi : Solid w (ad i)) :
    ∃ w', (Instr.mapUpdate 98 (.map (some b)) (.pointer (some ⟨ad i, 0, none⟩)) (.agg #[])).run Try.prog w = .ok () w' ∧ PsAt w' b ad (fun j => X j ∨ j = i) ∧ w.grownBy w' (some b) ∧ w'.heap.size = w.heap.size := by
  obtain ⟨K, h1, h2, h3⟩ := h
  obtain ⟨w', e, hp, hg, hz⟩ := h1.put (fun g v hv => by obtain ⟨_, j, hj, rfl⟩ := h2 g v hv; exact hs j hj) Try.underlying98 hi unitV (by
    cases hk : K (ad i) with
    | none => exact .inl rfl
    | some v => right; rw [(h2 _ v hk).1])
  refine ⟨w', e, ⟨_, hp, fun g v hv => ?_, fun j hj => ?_⟩, hg, hz⟩
  · unfold pset at hv
    split at hv
    · rename_i e; injection hv with hv; exact ⟨hv.symm, i, .inr rfl, e⟩
    · obtain ⟨e, j, hj, e2⟩ := h2 g v hv; exact ⟨e, j, .inl hj, e2⟩
  · unfold pset
    split
    · rfl
    · rename_i hne
      rcases hj with hj | rfl
      · exact h3 j hj
      · exact absurd rfl hne
theorem PsAt.look (h : PsAt w b ad X) (hs : ∀ i, X i → Solid w (ad i)) {i : Nat} (hi : Solid w (ad i)) (hinj : ∀ j, X j → ad j = ad i → j = i) {x : Bool} (hx : x = true ↔ X i) :
    (Instr.lookup 98 (.map (some b)) (.pointer (some ⟨ad i, 0, none⟩)) true).run Try.prog w = .ok (.tuple #[.agg #[], .bool x]) w := by
  obtain ⟨K, h1, h2, h3⟩ := h
  have h4 := h1.look (fun g v hv => by obtain ⟨_, j, hj, rfl⟩ := h2 g v hv; exact hs j hj) Try.underlying98 (Try.zero99 w) hi true
  unfold pkey at h4
  rw [h4]
  have e1 : (K (ad i)).isSome = x := by
    by_cases hX : X i
    · rw [h3 i hX, hx.2 hX]
    · cases hk : K (ad i) with
      | none => cases x with
        | false => rfl
        | true => exact absurd (hx.1 rfl) hX
      | some v =>
        obtain ⟨_, j, hj, e⟩ := h2 _ v hk
        exact absurd (hinj j hj e.symm ▸ hj) hX
  have e2 : (K (ad i)).getD (.agg #[]) = .agg #[] := by
    cases hk : K (ad i) with
    | none => rfl
    | some v => exact (h2 _ v hk).1
  simp only [if_true, e1, e2]
theorem PsAt.look_nil (h : PsAt w b ad X) : (Instr.lookup 98 (.map (some b)) (.pointer none) true).run Try.prog w = .ok (.tuple #[.agg #[], .bool false]) w := by
  obtain ⟨K, h1, h2, h3⟩ := h
  exact h1.look_nil Try.underlying98 (Try.zero99 w) true
end
section
variable {w : World} {ops : Array Oper} {rest : List Oper} {o : Oper} {a : Act} {Q : Exit → Act → World → Prop}
theorem wpList_ps_put (hg : o.guard = none) (m x v : Operand) (hop : o.op = Op.mapUpdate 98 m x v) (b : Nat) (ad : Nat → Nat) (X : Nat → Prop) (i : Nat) (hm : a.eval m = .map (some b)) (hx : a.eval x = .pointer (some ⟨ad i, 0, none⟩))
    (hv : a.eval v = .agg #[]) (hown : PsAt w b ad X) (hs : ∀ i, X i → Solid w (ad i)) (hi : Solid w (ad i))
    (hK : ∀ w', PsAt w' b ad (fun j => X j ∨ j = i) → w.grownBy w' (some b) → w'.heap.size = w.heap.size → wpList Try.prog ops Q rest (a.put o.dst undef) w') : wpList Try.prog ops Q (o :: rest) a w := by
  refine wpList_plain hg fun K' hK' => ?_
  obtain ⟨w', hrun, r1, r2, r3⟩ := hown.put hs hi
  unfold Oper.wp
  simp [execOp, hop, hm, hx, hv, hrun, Result.andThen]
  exact hK' _ _ (hK w' r1 r2 r3)
end
theorem Try.zero66 (w : World) : (zeroValue 66).run Try.prog w = .ok (.pointer none) w := Try.zeroValue66 w
/-- Block b is a map of files to their twins' blocks. -/
def TwAt (w : World) (b : Nat) (ad : Nat → Nat) (T : Nat → Option Nat) : Prop :=
  ∃ K, PmAt w b K ∧ (∀ g v, K g = some v → ∃ i t, T i = some t ∧ g = ad i ∧ v = .pointer (some ⟨t, 0, none⟩)) ∧ (∀ i t, T i = some t → K (ad i) = some (.pointer (some ⟨t, 0, none⟩)))
section
variable {w w' : World} {b : Nat} {ad : Nat → Nat} {T : Nat → Option Nat}
theorem TwAt.kept {S : Nat → Prop} (h : TwAt w b ad T) (hk : Kept S w w') (hS : ¬ S b) : TwAt w' b ad T := by
  obtain ⟨K, h1, h2⟩ := h; exact ⟨K, h1.kept hk hS, h2⟩
theorem TwAt.lt (h : TwAt w b ad T) : b < w.heap.size := by obtain ⟨K, h1, h2⟩ := h; exact h1.lt
theorem TwAt.new (w : World) (ad : Nat → Nat) : TwAt (w.alloc (.map #[] 0)) w.heap.size ad fun _ => none :=
  ⟨_, PmAt.new w, (fun g v h => by cases h), fun i t h => by cases h⟩
theorem TwAt.put (h : TwAt w b ad T) (hs : ∀ i t, T i = some t → Solid w (ad i)) {i : Nat} (hi : Solid w (ad i)) (hinj : ∀ j t, T j = some t → ad j = ad i → j = i) (hn : T i = none) (t : Nat) :
    ∃ w', (Instr.mapUpdate 87 (.map (some b)) (.pointer (some ⟨ad i, 0, none⟩)) (.pointer (some ⟨t, 0, none⟩))).run Try.prog w = .ok () w' ∧ TwAt w' b ad (fun j => if j = i then some t else T j) ∧ w.grownBy w' (some b) ∧ w'.heap.size = w.heap.size := by
  obtain ⟨K, h1, h2, h3⟩ := h
  have hKn : K (ad i) = none := by
    cases hk : K (ad i) with
    | none => rfl
    | some v =>
      obtain ⟨j, t', hj, e, _⟩ := h2 _ v hk
      rw [hinj j t' hj e.symm, hn] at hj
      cases hj
  obtain ⟨w', e, hp, hg, hz⟩ := h1.put (fun g v hv => by obtain ⟨j, t', hj, rfl, _⟩ := h2 g v hv; exact hs j t' hj) Try.underlying87 hi (.pointer (some ⟨t, 0, none⟩)) (.inl hKn)
  refine ⟨w', e, ⟨_, hp, fun g v hv => ?_, fun j t' hj => ?_⟩, hg, hz⟩
  · unfold pset at hv
    split at hv
    · rename_i e; injection hv with hv; exact ⟨i, t, by simp, e, hv.symm⟩
    · rename_i hne
      obtain ⟨j, t', hj, e, e2⟩ := h2 g v hv
      exact ⟨j, t', by show (if j = i then some t else T j) = some t'; rw [if_neg (fun e3 => hne (by rw [e, e3]))]; exact hj, e, e2⟩
  · replace hj : (if j = i then some t else T j) = some t' := hj
    by_cases e : j = i
    · subst e
      rw [if_pos rfl] at hj
      have hj := Option.some.inj hj
      subst hj
      simp [pset]
    · rw [if_neg e] at hj
      unfold pset
      rw [if_neg (fun e2 => e (hinj j t' hj e2))]
      exact h3 j t' hj
theorem TwAt.look (h : TwAt w b ad T) (hs : ∀ i t, T i = some t → Solid w (ad i)) {i : Nat} (hi : Solid w (ad i)) (hinj : ∀ j t, T j = some t → ad j = ad i → j = i) :
    (Instr.lookup 87 (.map (some b)) (.pointer (some ⟨ad i, 0, none⟩)) false).run Try.prog w = .ok (.pointer ((T i).map fun t => ⟨t, 0, none⟩)) w := by
  obtain ⟨K, h1, h2, h3⟩ := h
  have h4 := h1.look (fun g v hv => by obtain ⟨j, t', hj, rfl, _⟩ := h2 g v hv; exact hs j t' hj) Try.underlying87 (Try.zero66 w) hi false
  unfold pkey at h4
  rw [h4]
  simp only [Bool.false_eq_true, if_false]
  suffices hh : (K (ad i)).getD (.pointer none) = .pointer ((T i).map fun t => ⟨t, 0, none⟩) by rw [hh]
  cases hT : T i with
  | some t => rw [h3 i t hT]; rfl
  | none =>
    cases hk : K (ad i) with
    | none => rfl
    | some v =>
      obtain ⟨j, t', hj, e, _⟩ := h2 _ v hk
      rw [hinj j t' hj e.symm, hT] at hj
      cases hj
end
section
variable {w : World} {ops : Array Oper} {rest : List Oper} {o : Oper} {a : Act} {Q : Exit → Act → World → Prop}
theorem wpList_tw_put (hg : o.guard = none) (m x v : Operand) (hop : o.op = Op.mapUpdate 87 m x v) (b : Nat) (ad : Nat → Nat) (T : Nat → Option Nat) (i t : Nat) (hm : a.eval m = .map (some b)) (hx : a.eval x = .pointer (some ⟨ad i, 0, none⟩))
    (hv : a.eval v = .pointer (some ⟨t, 0, none⟩)) (hown : TwAt w b ad T) (hs : ∀ i t, T i = some t → Solid w (ad i)) (hi : Solid w (ad i)) (hinj : ∀ j t, T j = some t → ad j = ad i → j = i) (hn : T i = none)
    (hK : ∀ w', TwAt w' b ad (fun j => if j = i then some t else T j) → w.grownBy w' (some b) → w'.heap.size = w.heap.size → wpList Try.prog ops Q rest (a.put o.dst undef) w') : wpList Try.prog ops Q (o :: rest) a w := by
  refine wpList_plain hg fun K' hK' => ?_
  obtain ⟨w', hrun, r1, r2, r3⟩ := hown.put hs hi hinj hn t
  unfold Oper.wp
  simp [execOp, hop, hm, hx, hv, hrun, Result.andThen]
  exact hK' _ _ (hK w' r1 r2 r3)
end
end Go.Proofs.Ytgohjgeplageeaa
