/- FrameMakes returns true of any two parcels (of bulk at most 1048576). -/
import Derived.Test.YtoolimfdncfgnaaRows
import Derived.Test.YtoolimfdncfgnaaE4
import Derived.WalkKit
import Derived.ProofKit
import Derived.OpenShut
import Derived.ShutString
import Derived.ChangeOld
import Derived.Below
import Derived.Lib.SmallJoins
import Derived.JoinedCond
namespace Go.Proofs.Ytoolimfdncfgnaa.frameMakes
open Go.ChangeShapes Go.WideShapes Go.ChangeAt Go.RowKit
open Go.ChangeMaps (open_string shut_string)
set_option linter.unusedVariables false

theorem own : ownKnob Try.prog.godebug = none := by kernel_rfl
theorem laidOut : laidOutB Try.prog = true := by kernel_rfl

/-- A slice that came in: nil, or a row of cells. -/
def IsRow (k : IntKind) (w : World) (a : Option Addr) (len cap : Nat) (zs : List Int) : Prop :=
  (a = none ∧ len = 0 ∧ cap = 0 ∧ zs = []) ∨
  ∃ x, a = some x ∧ len ≤ cap ∧ cap ≤ maxLen ∧ zs.length = cap ∧ (∀ i, i < zs.length → w.cell? (x.add i) = some (.int k (zs.getD i 0))) ∧ ∀ n ∈ zs, (Lit.int k n).wf = true

/-! ### what the bound gives -/
theorem one_le {H : Type} (d : DataW H) : 1 ≤ Rows.uptoBulk d := by
  cases d with
  | lit l => cases l <;> simp [Rows.uptoBulk]
  | _ => simp [Rows.uptoBulk]
theorem part_le {H : Type} {d : DataW H} {l : List (DataW H)} (h : d ∈ l) : Rows.uptoBulk d ≤ Rows.uptoBulkAll l := by
  induction l with
  | nil => cases h
  | cons x r ih =>
    simp only [Rows.uptoBulkAll]
    cases List.mem_cons.1 h with
    | inl e => subst e; omega
    | inr e => have := ih e; omega
theorem length_le {H : Type} (l : List (DataW H)) : l.length ≤ Rows.uptoBulkAll l := by
  induction l with
  | nil => simp [Rows.uptoBulkAll]
  | cons x r ih => have := one_le x; simp only [Rows.uptoBulkAll, List.length_cons]; omega
theorem slice_le {H : Type} (elems spare : List (DataW H)) : elems.length + spare.length + 1 ≤ Rows.uptoBulk (.slice elems spare) := by
  have h1 := length_le elems
  have h2 := length_le spare
  simp only [Rows.uptoBulk]
  omega

theorem Try.cells31 : Try.prog.cellsOf 31 = 3 := by kernel_rfl
/-- A parcel that came in. -/
theorem open_parcel {H : Type} {enc : TypeId × Value → H} {W : World} {b0 base : Nat} {held : Bool} {v : Value} {d : DataW H} {p : List MemPlace} (hv : Value.okWide Try.prog W .any b0 31 v) (h : DataW.Trod enc Try.prog W base (fun _ => true) held 31 v d p) :
    ∃ (k s : Int) (a : Option Addr) (len cap : Nat) (zs : List Int), v = .agg #[.int .i64 k, .int .u64 s, .slice a len cap] ∧ (Lit.int .u64 s).wf = true ∧ IsRow .u8 W a len cap zs ∧ cap + 1 ≤ Rows.uptoBulk d := by
  obtain ⟨c0, c1, c2, y0, y1, y2, m, rfl, rfl, rfl, hy0, hy1, hy2⟩ := Joins.open_agg3 Try.underlying31 (by kernel_rfl) Try.cells31 hv h
  obtain ⟨k, e0, rfl, -⟩ := DataW.trod_int Try.underlying3 hy0
  obtain ⟨s, e1, rfl, ws⟩ := DataW.trod_int Try.underlying29 hy1
  simp at e0 e1
  subst e0 e1
  have hpart : Rows.uptoBulk y2.1 + 1 ≤ Rows.uptoBulk (.agg [(DataW.lit (Lit.int IntKind.i64 k) : DataW H), .lit (.int .u64 s), y2.1]) := by
    simp only [Rows.uptoBulk, Rows.uptoBulkAll]
    omega
  rcases open_ints Try.underlying25 Try.underlying5 (by kernel_rfl) hy2 with ⟨hcs, hx⟩ | ⟨x, l, c, zs, hcs, _, hl, hm, hz, hx, hcell, hwz⟩
  · simp at hcs
    subst hcs
    refine ⟨k, s, none, 0, 0, [], rfl, ws, .inl ⟨rfl, rfl, rfl, rfl⟩, ?_⟩
    simp only [Rows.uptoBulk, Rows.uptoBulkAll]
    omega
  · simp at hcs
    subst hcs
    refine ⟨k, s, some x, l, c, zs, rfl, ws, .inr ⟨_, rfl, hl, hm, by simpa using hz, hcell, hwz⟩, ?_⟩
    have hx1 := congrArg Prod.fst hx
    simp only at hx1
    refine Nat.le_trans ?_ hpart
    rw [hx1]
    have hsl := slice_le (H := H) (lits .u8 (zs.take l)) (lits .u8 (zs.drop l))
    have hL : (lits IntKind.u8 (zs.take l) : List (DataW H)).length + (lits IntKind.u8 (zs.drop l) : List (DataW H)).length = zs.length := by
      simp only [lits, List.length_map, List.length_take, List.length_drop]
      omega
    simp at hz
    omega

/-! ### the walk -/
theorem walk (k0 s0 : Int) (a0 : Option Addr) (len0 cap0 : Nat) (z0 : List Int) (k1 s1 : Int) (a1 : Option Addr) (len1 cap1 : Nat) (z1 : List Int) (w : World) (ws0 : (Lit.int .u64 s0).wf = true) (w0 : IsRow .u8 w a0 len0 cap0 z0) (u0 : cap0 ≤ 1048576) (ws1 : (Lit.int .u64 s1).wf = true) (w1 : IsRow .u8 w a1 len1 cap1 z1) (u1 : cap1 ≤ 1048576) :
    Calls Try.prog 5 #[.agg #[.int .i64 k0, .int .u64 s0, .slice a0 len0 cap0], .agg #[.int .i64 k1, .int .u64 s1, .slice a1 len1 cap1]] w fun e w' => e = .returned (.bool true) ∧ Below w.heap.size w w' := by
  obtain ⟨l0, e0, b0, r0, m0, -⟩ := reads_of_row w0
  obtain ⟨l1, e1, b1, r1, m1, -⟩ := reads_of_row w1
  have n0 := reads_le r0
  have n1 := reads_le r1
  have x0 : 0 ≤ s0 ∧ s0 ≤ 18446744073709551615 := by simpa [Lit.wf, IntKind.min, IntKind.max, IntKind.signed, IntKind.bits] using ws0
  have x1 : 0 ≤ s1 ∧ s1 ≤ 18446744073709551615 := by simpa [Lit.wf, IntKind.min, IntKind.max, IntKind.signed, IntKind.bits] using ws1
  obtain ⟨t0, rfl⟩ : ∃ t : Nat, s0 = t := ⟨s0.toNat, by omega⟩
  obtain ⟨t1, rfl⟩ : ∃ t : Nat, s1 = t := ⟨s1.toNat, by omega⟩
  exact (makes_any k0 k1 t0 t1 a0 a1 len0 cap0 len1 cap1 l0 l1 w (by omega) (by omega) b0 (by omega) r0 b1 (by omega) r1).mono fun e w' h => ⟨h.1, h.2.below (Nat.le_refl _) (fun _ _ => id)⟩

/-! ### the row's step -/
theorem contract (H : Type) (enc : TypeId × Value → H) (W : World) (base : Nat) (args : Array Value) (ds gs : List (DataW H)) (before : List MemPlace)
    (hval : ∀ (j : Nat) t v, Try.f5.params[j]? = some t → args[j]? = some v → Value.okWide Try.prog W .any base t v)
    (hW : DataW.Whole enc Try.prog Try.f5.params.toList Rows.frameMakesSpec.vars false W args.toList ds gs before) (hk : Rows.uptoSmall H (ds ++ gs) = true) :
    Calls Try.prog 5 args W fun e W' => ∃ v, e = .returned v ∧ Rows.frameMakesSpec.post enc Try.prog Try.f5 false true false false W args v W' := by
  have hW' := hW
  obtain ⟨p, q, hA0, hV, rfl, hfz, hnd⟩ := hW
  have hA : DataW.TrodAll enc Try.prog W 0 (fun _ => true) true Try.f5.params.toList args.toList ds p := hA0
  rw [Try.params5] at hA hval
  obtain ⟨v0, vs0, d0, ds0, p0, q0, hargs, rfl, rfl, h0, r0⟩ := trodAll_cons hA
  obtain ⟨v1, vs1, d1, ds1, p1, q1, rfl, rfl, rfl, h1, r1⟩ := trodAll_cons r0
  obtain ⟨rfl, rfl, rfl⟩ := trodAll_nil r1
  obtain rfl : args = #[v0, v1] := by cases args; simp_all
  obtain ⟨rfl, rfl⟩ := trodVars_none hV
  obtain ⟨dall, hdall⟩ : ∃ d : List (DataW H), d = [d0, d1] ++ [] := ⟨_, rfl⟩
  have hkk : Rows.uptoBulkAll dall ≤ 1048576 := by rw [hdall]; simpa [Rows.uptoSmall] using hk
  have k0 := h0
  have lt0 : ∀ x ∈ p0, x.block < W.heap.size := by obtain ⟨m, hm⟩ := k0; exact DataW.trod_lt m _ _ _ hm
  have k1 := h1
  have lt1 : ∀ x ∈ p1, x.block < W.heap.size := by obtain ⟨m, hm⟩ := k1; exact DataW.trod_lt m _ _ _ hm
  obtain ⟨x0, s0, a0, len0, cap0, z0, rfl, ws0, w0, u0⟩ := open_parcel (hval 0 31 v0 rfl rfl) h0
  obtain ⟨x1, s1, a1, len1, cap1, z1, rfl, ws1, w1, u1⟩ := open_parcel (hval 1 31 v1 rfl rfl) h1
  have hp0 := part_le (l := dall) (d := d0) (by rw [hdall]; simp)
  have hp1 := part_le (l := dall) (d := d1) (by rw [hdall]; simp)
  clear hA0
  refine (walk x0 s0 a0 len0 cap0 z0 x1 s1 a1 len1 cap1 z1 W ws0 w0 (by omega) ws1 w1 (by omega)).mono fun e W' ⟨he, bel⟩ => ?_
  subst he
  exact ⟨_, rfl, _, _, _, [], _, [], hW', trodAll_mk1 (shut_bool Try.underlying4 _), (trodAll_cons_mk (Below.trod laidOut (by kernel_rfl) (of_decide_eq_true (by kernel_rfl)) k0 bel lt0) (trodAll_cons_mk (Below.trod laidOut (by kernel_rfl) (of_decide_eq_true (by kernel_rfl)) k1 bel lt1) trodAll_mk0)), rfl, bel.frame _, fun h => by cases h⟩

set_option maxRecDepth 100000 in
theorem lifted (os : Os) (started : os.Started) (H : Type) (enc : TypeId × Value → H) (F : Stop.Interp) :
    ReturnsInHanded {} Try.checked os 5 .any ((Rows.OpenSpec.upto Rows.frameMakesSpec).pre6 enc Try.prog Try.f5 Rows.frameMakesUptoRow.domain false) (((Rows.OpenSpec.upto Rows.frameMakesSpec).at F).post enc Try.prog Try.f5 false true false false) := by
  refine returnsInHanded_of_cond (C := Try.checked) (s := Rows.OpenSpec.upto Rows.frameMakesSpec) (k := Rows.uptoSmall) rfl own started (by kernel_rfl) Try.func5
    (OpenSpec.witness (enc := enc) (C := Try.checked) (s := Rows.OpenSpec.upto Rows.frameMakesSpec) (k := Rows.uptoSmall) rfl false ⟨#[], #[.agg #[.int .i64 0, .int .u64 0, .slice none 0 0], .agg #[.int .i64 0, .int .u64 0, .slice none 0 0]], []⟩ 8 (by kernel_rfl) (by kernel_rfl) (by kernel_rfl)
      (x := ([.agg [.lit (.int .i64 0), .lit (.int .u64 0), .nil], .agg [.lit (.int .i64 0), .lit (.int .u64 0), .nil]], [], [])) (by kernel_rfl) rfl (by kernel_rfl)) ?_
  intro W base args ds gs before hval hW _ hk _
  exact contract H enc W base args ds gs before hval hW hk

theorem over : Rows.frameMakesUptoRow.holds Try.pinned (Rows.OpenSpec.upto Rows.frameMakesSpec) :=
  OpenClaim.holds_of_cond 5 Try.f5 rfl rfl rfl rfl rfl rfl rfl ⟨rfl, rfl, rfl, rfl, rfl⟩ rfl rfl rfl rfl rfl (by kernel_rfl) Try.func5 (by kernel_rfl)
    (of_decide_eq_true (by kernel_rfl)) (by unfold Func.isWrapper; first | (rw [if_pos (by decide +kernel)]; kernel_rfl) | (rw [if_neg (by decide +kernel)]; exact ⟨rfl, rfl⟩))
    (fun os started H enc _ F => lifted os started H enc F)

/-- The statement. -/
theorem proved : Rows.FrameMakesUptoSaid := over
#print axioms proved
end Go.Proofs.Ytoolimfdncfgnaa.frameMakes
