/- append of one thing as an arm; a whole struct loaded and stored. -/
import Derived.Test.YtgohjgeplageeaaF5
import Derived.Deep.MidRow
import Derived.Laws.Rows
import Derived.Laws.ResultCell
import Derived.Deep.RegionLaw
import Derived.Deep.RegionHeld3
import Derived.Deep.DrawnRows
import Derived.Deep.DeepCutAuto
namespace Go.Proofs.Ytgohjgeplageeaa
open Go Go.RowKit
set_option linter.unusedVariables false
set_option linter.unusedSimpArgs false
section
variable {P : Program} {w : World} {ops : Array Oper} {rest : List Oper} {o : Oper} {a : Act} {Q : Exit → Act → World → Prop}
/-- 'append(s, x)' of one element that was just laid (long lists). -/
theorem wpList_append_long (hgd : o.guard = none) (s x : Operand) (t : TypeId) (ho : o.op = .call { callee := .builtin .append, args := #[s, x], argTypes := #[t, t] })
    (B : Nat) (e : TypeId) (i : TypeInfo) (z : Value) (size bytes : Nat) (ht : P.underlying t = some (.slice e)) (hi : P.info? e = some i) (hz : i.zero = some z) (hsize : i.size = size) (hby : i.bytes = bytes) (hzs : z.cells.size = size) (hsz : 0 < size)
    (v : Value) (n : Nat) (xs : List Value) (cs : Array Value) (c : Nat) (hs : a.eval s = v) (hx : a.eval x = .slice (some ⟨w.heap.size, 0, none⟩) 1 c)
    (hcs : cs.toList.length = size) (h1 : ∀ u ∈ cs.toList, u.oneCell' = true)
    (hown : w.ownsRow B e size v n xs) (h63 : n ≤ 1000000000000) (hbytes : bytes ≤ 100) (hB : B ≤ w.heap.size)
    (h : ∀ A c' w', w'.ownsRow B e size (.slice A (n + 1) c') (n + 1) (xs ++ cs.toList) → (w.alloc (.cells cs e)).grownBy w' v.ownBlock → ((Value.slice A (n + 1) c').ownBlock = v.ownBlock ∨ (Value.slice A (n + 1) c').ownBlock = some (w.alloc (.cells cs e)).heap.size) →
      wpList P ops Q rest (a.put o.dst (.slice A (n + 1) c')) w') : wpList P ops Q (o :: rest) a (w.alloc (.cells cs e)) := by
  refine wpList_append_own_at (w.alloc (.cells cs e)) hgd s x t ho B e i z size bytes ht hi hz hsize hby hzs hsz v n xs hs (hown.alloc _) ⟨w.heap.size, 0, none⟩ 1 c cs.toList hx (by rw [hcs, Nat.one_mul]) ?_ h1 (by simp [maxLen]; omega) (Nat.le_trans (Nat.mul_le_mul (show n + 1 ≤ 1000000000001 by omega) hbytes) (by omega)) (by simp; omega) ?_
  · intro j u hu
    rw [Addr.add_lit, Nat.zero_add, blk_cell (heap_alloc_new w _), ← hu, Array.getElem?_toList]
  · intro v' w' hown' hg _ hat
    obtain ⟨A, c', rfl⟩ := own_slice hown'
    exact h A c' w' hown' hg hat
/-- The same at a step of a region that draws its order. -/
theorem step_append_long {K : Act → World → Prop} {E' : Prop} (hgd : o.guard = none) (s x : Operand) (t : TypeId) (ho : o.op = .call { callee := .builtin .append, args := #[s, x], argTypes := #[t, t] })
    (B : Nat) (e : TypeId) (i : TypeInfo) (z : Value) (size bytes : Nat) (ht : P.underlying t = some (.slice e)) (hi : P.info? e = some i) (hz : i.zero = some z) (hsize : i.size = size) (hby : i.bytes = bytes) (hzs : z.cells.size = size) (hsz : 0 < size)
    (v : Value) (n : Nat) (xs : List Value) (cs : Array Value) (c : Nat) (hs : a.eval s = v) (hx : a.eval x = .slice (some ⟨w.heap.size, 0, none⟩) 1 c)
    (hcs : cs.toList.length = size) (h1 : ∀ u ∈ cs.toList, u.oneCell' = true)
    (hown : w.ownsRow B e size v n xs) (h63 : n ≤ 1000000000000) (hbytes : bytes ≤ 100) (hB : B ≤ w.heap.size)
    (h : ∀ A c' w', w'.ownsRow B e size (.slice A (n + 1) c') (n + 1) (xs ++ cs.toList) → (w.alloc (.cells cs e)).grownBy w' v.ownBlock → ((Value.slice A (n + 1) c').ownBlock = v.ownBlock ∨ (Value.slice A (n + 1) c').ownBlock = some (w.alloc (.cells cs e)).heap.size) → K (a.put o.dst (.slice A (n + 1) c')) w') :
    if Region.wanted o (yielded ops a.tmps) = true then Oper.wp P o a (w.alloc (.cells cs e)) K Q else E' := by
  have hw : Region.wanted o (yielded ops a.tmps) = true := by simp [Region.wanted, hgd]
  rw [if_pos hw]
  obtain ⟨v', w', hr, h2, h3, _, hat⟩ := run_append_own_at (P := P) (w.alloc (.cells cs e)) B t o.type e i z size bytes ht hi hz hsize hby hzs hsz v n xs (hown.alloc _) ⟨w.heap.size, 0, none⟩ 1 c cs.toList (by rw [hcs, Nat.one_mul]) (fun j u hu => by
    rw [Addr.add_lit, Nat.zero_add, blk_cell (heap_alloc_new w _), ← hu, Array.getElem?_toList]) h1 (by simp [maxLen]; omega) (Nat.le_trans (Nat.mul_le_mul (show n + 1 ≤ 1000000000001 by omega) hbytes) (by omega)) (by simp; omega)
  unfold Oper.wp execOp
  simp only [ho, resolve, invoke, builtin, Sem.run_bind, Sem.run_pure, Result.andThen_ok, List.map_toArray, List.map_cons, List.map_nil, hs, hx, hr]
  obtain ⟨A, c', rfl⟩ := own_slice h2
  exact h A c' w' h2 h3 hat
end
theorem setCells_blk (g : Nat) (T : TypeId) : ∀ (vs : List Value) (o : Nat) (w : World) (cs : Array Value), w.heap[g]? = some (.cells cs T (0, 0)) → o + vs.length ≤ cs.size →
    ∃ cs', (w.setCells g o vs).heap[g]? = some (.cells cs' T (0, 0)) ∧ cs'.toList = cs.toList.take o ++ vs ++ cs.toList.drop (o + vs.length) ∧ Kept (fun k => k = g) w (w.setCells g o vs)
  | [], o, w, cs, h, _ => ⟨cs, h, by simp, .refl _ _⟩
  | v :: r, o, w, cs, h, hl => by
    have h1 := blk_set h o v
    obtain ⟨cs', e1, e2, e3⟩ := setCells_blk g T r (o + 1) _ _ h1 (by simp only [List.length_cons] at hl; rw [Array.size_setIfInBounds]; omega)
    refine ⟨cs', e1, ?_, (Kept.setCell (S := fun k => k = g) _ _ _ rfl).trans e3 (fun _ _ e => e) (fun _ _ e => e)⟩
    have ho : o < cs.toList.length := by simp only [List.length_cons, Array.length_toList] at hl ⊢; omega
    rw [e2, Array.toList_setIfInBounds, List.take_add_one, List.take_set_of_le (Nat.le_refl _), List.getElem?_set_self ho, Option.toList_some, List.drop_set_of_lt (by omega), List.append_assoc, List.append_assoc, List.append_assoc]
    simp only [List.length_cons]
    rw [show o + 1 + r.length = o + (r.length + 1) by omega]
    rfl
theorem rangeAt_blk {w : World} {g : Nat} {cs : Array Value} {T : TypeId} {fr : Nat × Nat} (h : w.heap[g]? = some (.cells cs T fr)) : w.rangeAt g 0 cs.toList := fun j v hv => by
  rw [Nat.zero_add, blk_cell h, ← hv, Array.getElem?_toList]
theorem there_blk {w : World} {g : Nat} {cs : Array Value} {T : TypeId} (h : w.heap[g]? = some (.cells cs T (0, 0))) : w.there g 0 cs.size := fun j hj => by
  rw [Nat.zero_add]
  exact ⟨by rw [blk_cell h, Array.getElem?_eq_getElem hj]; rfl, blk_frozen h j⟩
section
variable {P : Program} {w : World} {ops : Array Oper} {rest : List Oper} {op : Oper} {a : Act} {Q : Exit → Act → World → Prop}
theorem wpList_load_blk (hgd : op.guard = none) (ty : TypeId) (x : Operand) (ho : op.op = .load ty x) (d : TypeDesc) (hu : P.underlying ty = some d) (hd : d.isRow = true) (n : Nat) (hi : (P.info? ty).map (·.size) = some n)
    (g : Nat) (cs : Array Value) {T : TypeId} {fr : Nat × Nat} (hx : a.eval x = .pointer (some ⟨g, 0, none⟩)) (hb : w.heap[g]? = some (.cells cs T fr)) (hn : cs.size = n)
    (h : wpList P ops Q rest (a.put op.dst (.agg cs)) w) : wpList P ops Q (op :: rest) a w :=
  wpList_load_mid hgd ty x ho g 0 hx cs.toList d (rangeAt_blk hb) hu hd (by rw [hi, ← hn, Array.length_toList]) (by simpa using h)
theorem wpList_store_blk (hgd : op.guard = none) (ty : TypeId) (x y : Operand) (ho : op.op = .store ty x y) (n : Nat) (hi : (P.info? ty).map (·.size) = some n)
    (g : Nat) (cs0 cs : Array Value) {T : TypeId} (hx : a.eval x = .pointer (some ⟨g, 0, none⟩)) (hy : a.eval y = .agg cs) (hb : w.heap[g]? = some (.cells cs0 T (0, 0))) (hn : cs.size = n) (hn0 : cs0.size = n) (h1 : cs.all (·.oneCell') = true)
    (h : ∀ w', w'.heap[g]? = some (.cells cs T (0, 0)) → Kept (fun k => k = g) w w' → wpList P ops Q rest (a.put op.dst undef) w') : wpList P ops Q (op :: rest) a w := by
  refine wpList_store_mid hgd ty x y ho g 0 cs hx hy (by rw [hn, ← hn0]; exact there_blk hb) (by rw [hi, hn]) h1 ?_
  obtain ⟨cs', e1, e2, e3⟩ := setCells_blk g T cs.toList 0 w cs0 hb (by rw [Array.length_toList]; omega)
  have : cs' = cs := by
    apply Array.toList_inj.1
    rw [e2, List.take_zero, List.nil_append, List.drop_eq_nil_of_le (by simp only [Array.length_toList]; omega), List.append_nil]
  subst this
  exact h _ e1 e3
end
end Go.Proofs.Ytgohjgeplageeaa
