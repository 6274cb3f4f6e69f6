/- The names of a disk in memory: a map of a text to a file's block. -/
import Derived.Test.YtgohjgeplageeaaLib
import Derived.Test.YtgohjgeplageeaaD0
import Derived.Test.YtgohjgeplageeaaProg
import Derived.Maps.RangeWalk
import Derived.Maps.OwnSet
import Derived.Maps.OwnOps
namespace Go.Proofs.Ytgohjgeplageeaa
open Go Go.RowKit
set_option linter.unusedVariables false
set_option linter.unusedSimpArgs false

/-- How a map's element reads that is a pointer to a block's first cell. -/
def ptrElem : Value → Option (DataW Unit × List MemPlace)
  | .pointer none => some (.nil, [])
  | .pointer (some a) => if a.off = 0 ∧ a.spot = none then some (.lit (.int .i64 a.block), []) else none
  | _ => none
def ptrV (ad : Nat → Nat) (o : Option Nat) : Value := .pointer (o.map fun i => ⟨ad i, 0, none⟩)
def ptrD (ad : Nat → Nat) : Option Nat → DataW Unit
  | none => .nil
  | some i => .lit (.int .i64 (ad i))
theorem ptrElem_mk (ad : Nat → Nat) (o : Option Nat) : ptrElem (ptrV ad o) = some (ptrD ad o, []) := by
  cases o <;> simp [ptrElem, ptrV, ptrD]
theorem ptrElem_inv {v : Value} {z : DataW Unit × List MemPlace} (h : ptrElem v = some z) {ad : Nat → Nat} {o : Option Nat} (hz : z.1 = ptrD ad o) : v = ptrV ad o := by
  cases v with
  | pointer a =>
    cases a with
    | none =>
      simp only [ptrElem, Option.some.injEq] at h
      subst h
      cases o with
      | none => rfl
      | some i => cases hz
    | some a =>
      simp only [ptrElem] at h
      split at h
      · rename_i hc
        injection h with h
        subst h
        cases o with
        | none => cases hz
        | some i =>
          obtain ⟨b, off, spot⟩ := a
          obtain ⟨rfl, rfl⟩ := hc
          simp only [ptrD, DataW.lit.injEq, Lit.int.injEq, true_and] at hz
          simp only [ptrV, Option.map_some]
          have : b = ad i := by omega
          rw [this]
      · cases h
  | _ => cases h
theorem ptrElem_ptr {v : Value} {z : DataW Unit × List MemPlace} (h : ptrElem v = some z) : ∃ p, v = .pointer p := by
  cases v <;> first | exact ⟨_, rfl⟩ | cases h
def nmKey (s : ByteArray) : Lit := .string s.data.toList
theorem nmKey_inj {a b : ByteArray} (h : nmKey a = nmKey b) : a = b := by
  cases a; cases b
  simp only [nmKey, Lit.string.injEq] at h
  rw [Array.toList_inj.1 h]
theorem nmKey_is (s : ByteArray) : WideAt.IsKeyLit (nmKey s) := trivial
theorem Try.keyed9 : Go.Maps.Keyed Try.prog 9 := Go.Maps.string_keyed Try.underlying9
theorem key_of {s : ByteArray} (hs : s.size ≤ maxLen) : keyOf Try.prog 9 (.string s) = some (nmKey s) := Go.WideMaps.keyOf_string_mk (P := Try.prog) Try.underlying9 hs
/-- Block b holds the names f; ad: where the files lie; N: at most so many. -/
structure NmIs (ad : Nat → Nat) (f : Nm) (D : DataW Unit) : Prop where
  has : ∀ s, Maps.has D (nmKey s) = (f s).isSome
  at_ : ∀ s, D.atKey (nmKey s) .nil = ptrD ad (f s)
def NmAt (w : World) (b N : Nat) (ad : Nat → Nat) (f : Nm) : Prop :=
  ∃ n D, n ≤ N ∧ w.ownsMap Try.prog 9 ptrElem b n D ∧ NmIs ad f D
section
variable {w w' : World} {b N : Nat} {ad : Nat → Nat} {f : Nm} {s : ByteArray} {i : Nat}
theorem NmAt.lt (h : NmAt w b N ad f) : b < w.heap.size := by obtain ⟨n, D, -, h, -⟩ := h; exact h.lt
theorem NmAt.mono {N' : Nat} (h : NmAt w b N ad f) (hN : N ≤ N') : NmAt w b N' ad f := by
  obtain ⟨n, D, h0, h1, h2⟩ := h
  exact ⟨n, D, Nat.le_trans h0 hN, h1, h2⟩
theorem NmAt.kept {S : Nat → Prop} (h : NmAt w b N ad f) (hk : Kept S w w') (hS : ¬ S b) : NmAt w' b N ad f := by
  obtain ⟨n, D, h0, ⟨es, c, h1, h2, h3, h4⟩, h5⟩ := h
  exact ⟨n, D, h0, ⟨es, c, blk_kept hk h1 hS, h2, h3, h4⟩, h5⟩
theorem NmAt.congr {ad' : Nat → Nat} (h : NmAt w b N ad f) (ha : ∀ s i, f s = some i → ad' i = ad i) : NmAt w b N ad' f := by
  obtain ⟨n, D, h0, h1, h2⟩ := h
  refine ⟨n, D, h0, h1, h2.has, fun s => ?_⟩
  rw [h2.at_ s]
  cases e : f s with
  | none => rfl
  | some i => simp only [ptrD]; rw [ha s i e]
theorem NmAt.new (w : World) (ad : Nat → Nat) : NmAt (w.alloc (.map #[] 0)) w.heap.size 0 ad (fun _ => none) :=
  ⟨0, _, Nat.le_refl _, World.ownsMap_made w _ _ _, fun s => rfl, fun s => rfl⟩
theorem NmAt.look (h : NmAt w b N ad f) (hs : s.size ≤ maxLen) : (Instr.lookup 61 (.map (some b)) (.string s) false).run Try.prog w = .ok (ptrV ad (f s)) w := by
  obtain ⟨n, D, h0, h1, h2⟩ := h
  obtain ⟨v, ps, e1, e2⟩ := h1.lookup Try.keyed9 Try.underlying61 (Try.zeroValue66 w) (zd := .nil) (zp := []) rfl (key_of hs)
  rw [e1, ptrElem_inv e2 (h2.at_ s)]
theorem NmIs.put {D : DataW Unit} (h : NmIs ad f D) (hm : Maps.IsMap D) (s : ByteArray) (i : Nat) : NmIs ad (f.put s i) (D.put (nmKey s) (.lit (.int .i64 (ad i)))) := by
  refine ⟨fun t => ?_, fun t => ?_⟩
  · by_cases e : t = s
    · subst e; simp [Nm.put, Maps.has_put_same hm (nmKey_is t)]
    · rw [Maps.has_put_other (fun e2 => e (nmKey_inj e2)), h.has]; simp [Nm.put, e]
  · by_cases e : t = s
    · subst e; simp [Nm.put, ptrD, Maps.atKey_put_same hm (nmKey_is t)]
    · rw [Maps.atKey_put_other (fun e2 => e (nmKey_inj e2)), h.at_]; simp [Nm.put, e]
theorem NmIs.del {D : DataW Unit} (h : NmIs ad f D) (s : ByteArray) : NmIs ad (f.del s) (D.del (nmKey s)) := by
  refine ⟨fun t => ?_, fun t => ?_⟩
  · by_cases e : t = s
    · subst e; simp [Nm.del, Maps.has_del_same]
    · rw [Maps.has_del_other (fun e2 => e (nmKey_inj e2)), h.has]; simp [Nm.del, e]
  · by_cases e : t = s
    · subst e; simp [Nm.del, ptrD, Maps.atKey_del_same]
    · rw [Maps.atKey_del_other (fun e2 => e (nmKey_inj e2)), h.at_]; simp [Nm.del, e]
theorem NmAt.put (h : NmAt w b N ad f) (hs : s.size ≤ maxLen) (hN : N < maxLen) (i : Nat) :
    ∃ w', (Instr.mapUpdate 61 (.map (some b)) (.string s) (.pointer (some ⟨ad i, 0, none⟩))).run Try.prog w = .ok () w' ∧ NmAt w' b (N + 1) ad (f.put s i) ∧ w.grownBy w' (some b) ∧ w'.heap.size = w.heap.size := by
  obtain ⟨n, D, h0, h1, h2⟩ := h
  obtain ⟨w', e1, e2, e3⟩ := h1.store Try.keyed9 Try.underlying61 (Nat.lt_of_le_of_lt h0 hN) (key_of hs) (ptrElem_mk ad (some i))
  have e4 := e3.grown
  refine ⟨w', e1, ⟨n + 1, _, by omega, e2, h2.put h1.isMap s i⟩, e4, ?_⟩
  obtain ⟨_, _, _, _, _, rfl⟩ := e3
  simp [Go.ChangeMaps.setBlock]
theorem NmAt.del (h : NmAt w b N ad f) (hs : s.size ≤ maxLen) (ty : TypeId) :
    ∃ w', (Builtin.delete_ #[61, 9] ty #[.map (some b), .string s]).run Try.prog w = .ok (.tuple #[]) w' ∧ NmAt w' b N ad (f.del s) ∧ w.grownBy w' (some b) ∧ w'.heap.size = w.heap.size := by
  obtain ⟨n, D, h0, h1, h2⟩ := h
  obtain ⟨w', e1, e2, e3⟩ := h1.drop Try.keyed9 Try.underlying61 (key_of hs) ty
  have e4 := e3.grown
  refine ⟨w', e1, ⟨n, _, h0, e2, h2.del s⟩, e4, ?_⟩
  obtain ⟨_, _, _, _, _, rfl⟩ := e3
  simp [Go.ChangeMaps.setBlock]
end
section
variable {w : World} {ops : Array Oper} {rest : List Oper} {o : Oper} {a : Act} {Q : Exit → Act → World → Prop} {b N : Nat} {ad : Nat → Nat} {f : Nm}
theorem wpList_put (hg : o.guard = none) (m x v : Operand) (hop : o.op = Op.mapUpdate 61 m x v) (b N : Nat) (ad : Nat → Nat) (f : Nm) (s : ByteArray) (i : Nat) (hm : a.eval m = .map (some b)) (hx : a.eval x = .string s)
    (hv : a.eval v = .pointer (some ⟨ad i, 0, none⟩)) (hown : NmAt w b N ad f) (hs : s.size ≤ maxLen) (hN : N < maxLen)
    (hK : ∀ w', NmAt w' b (N + 1) ad (f.put s i) → w.grownBy w' (some b) → w'.heap.size = w.heap.size → wpList Try.prog ops Q rest (a.put o.dst undef) w') : wpList Try.prog ops Q (o :: rest) a w := by
  refine wpList_plain hg fun K' hK' => ?_
  obtain ⟨w', hrun, r1, r2, r3⟩ := hown.put hs hN i
  unfold Oper.wp
  simp [execOp, hop, hm, hx, hv, hrun, Result.andThen]
  exact hK' _ _ (hK w' r1 r2 r3)
theorem wpList_del (hg : o.guard = none) (m x : Operand) (hop : o.op = Op.call { callee := Callee.builtin Builtin.delete, args := #[m, x], argTypes := #[61, 9] }) (b N : Nat) (ad : Nat → Nat) (f : Nm) (s : ByteArray)
    (hm : a.eval m = .map (some b)) (hx : a.eval x = .string s) (hown : NmAt w b N ad f) (hs : s.size ≤ maxLen)
    (hK : ∀ w', NmAt w' b N ad (f.del s) → w.grownBy w' (some b) → w'.heap.size = w.heap.size → wpList Try.prog ops Q rest (a.put o.dst (.tuple #[])) w') : wpList Try.prog ops Q (o :: rest) a w := by
  refine wpList_plain hg fun K' hK' => ?_
  obtain ⟨w', hrun, r1, r2, r3⟩ := hown.del hs o.type
  unfold Oper.wp
  simp [execOp, hop, resolve, invoke, builtin, hm, hx, hrun, Result.andThen]
  exact hK' _ _ (hK w' r1 r2 r3)
theorem wpList_look (hg : o.guard = none) (m x : Operand) (hop : o.op = Op.lookup 61 m x false) (b N : Nat) (ad : Nat → Nat) (f : Nm) (s : ByteArray)
    (hm : a.eval m = .map (some b)) (hx : a.eval x = .string s) (hown : NmAt w b N ad f) (hs : s.size ≤ maxLen)
    (hK : wpList Try.prog ops Q rest (a.put o.dst (ptrV ad (f s))) w) : wpList Try.prog ops Q (o :: rest) a w := by
  refine wpList_plain hg fun K' hK' => ?_
  unfold Oper.wp
  simp [execOp, hop, hm, hx, hown.look hs, Result.andThen]
  exact hK' _ _ hK
end
end Go.Proofs.Ytgohjgeplageeaa
