/- A whole struct out of a block, and into one (arms of the walk). -/
import Derived.Test.YtniigjfimggobaaDoorT5
import Derived.Deep.MidRow
import Derived.Laws.Rows
import Derived.Laws.ResultCell
import Derived.Test.YtniigjfimggobaaDoorU5
namespace Go.Proofs.YtniigjfimggobaaDoor
open Go.RowKit
set_option linter.unusedVariables false
set_option linter.unusedSimpArgs false

theorem setCells_blk (g : Nat) (T : TypeId) : ∀ (vs : List Value) (o : Nat) (w : World) (cs : Array Value), w.heap[g]? = some (.cells cs T (0, 0)) → o + vs.length ≤ cs.size →
    ∃ cs', (w.setCells g o vs).heap[g]? = some (.cells cs' T (0, 0)) ∧ cs'.toList = cs.toList.take o ++ vs ++ cs.toList.drop (o + vs.length) ∧ Kept (fun k => k = g) w (w.setCells g o vs)
  | [], o, w, cs, h, _ => ⟨cs, h, by simp, .refl _ _⟩
  | v :: r, o, w, cs, h, hl => by
    have h1 := blk_set h o v
    obtain ⟨cs', e1, e2, e3⟩ := setCells_blk g T r (o + 1) _ _ h1 (by simp only [List.length_cons] at hl; rw [Array.size_setIfInBounds]; omega)
    refine ⟨cs', e1, ?_, (Kept.setCell (S := fun k => k = g) _ _ _ rfl).trans e3 (fun _ _ e => e) (fun _ _ e => e)⟩
    have ho : o < cs.toList.length := by simp only [List.length_cons, Array.length_toList] at hl ⊢; omega
    rw [e2, Array.toList_setIfInBounds, List.take_add_one, List.take_set_of_le (Nat.le_refl _), List.getElem?_set_self ho, Option.toList_some, List.drop_set_of_lt (by omega), List.append_assoc, List.append_assoc, List.append_assoc]
    simp only [List.length_cons]
    rw [show o + 1 + r.length = o + (r.length + 1) by omega]
    rfl
theorem rangeAt_blk {w : World} {g : Nat} {cs : Array Value} {T : TypeId} {fr : Nat × Nat} (h : w.heap[g]? = some (.cells cs T fr)) : w.rangeAt g 0 cs.toList := fun j v hv => by
  rw [Nat.zero_add, blk_cell h, ← hv, Array.getElem?_toList]
theorem there_blk {w : World} {g : Nat} {cs : Array Value} {T : TypeId} (h : w.heap[g]? = some (.cells cs T (0, 0))) : w.there g 0 cs.size := fun j hj => by
  rw [Nat.zero_add]
  exact ⟨by rw [blk_cell h, Array.getElem?_eq_getElem hj]; rfl, blk_frozen h j⟩
section
variable {P : Program} {w : World} {ops : Array Oper} {rest : List Oper} {op : Oper} {a : Act} {Q : Exit → Act → World → Prop}
theorem wpList_load_blk (hgd : op.guard = none) (ty : TypeId) (x : Operand) (ho : op.op = .load ty x) (d : TypeDesc) (hu : P.underlying ty = some d) (hd : d.isRow = true) (n : Nat) (hi : (P.info? ty).map (·.size) = some n)
    (g : Nat) (cs : Array Value) {T : TypeId} {fr : Nat × Nat} (hx : a.eval x = .pointer (some ⟨g, 0, none⟩)) (hb : w.heap[g]? = some (.cells cs T fr)) (hn : cs.size = n)
    (h : wpList P ops Q rest (a.put op.dst (.agg cs)) w) : wpList P ops Q (op :: rest) a w :=
  wpList_load_mid hgd ty x ho g 0 hx cs.toList d (rangeAt_blk hb) hu hd (by rw [hi, ← hn, Array.length_toList]) (by simpa using h)
theorem wpList_store_blk (hgd : op.guard = none) (ty : TypeId) (x y : Operand) (ho : op.op = .store ty x y) (n : Nat) (hi : (P.info? ty).map (·.size) = some n)
    (g : Nat) (cs0 cs : Array Value) {T : TypeId} (hx : a.eval x = .pointer (some ⟨g, 0, none⟩)) (hy : a.eval y = .agg cs) (hb : w.heap[g]? = some (.cells cs0 T (0, 0))) (hn : cs.size = n) (hn0 : cs0.size = n) (h1 : cs.all (·.oneCell') = true)
    (h : ∀ w', w'.heap[g]? = some (.cells cs T (0, 0)) → Kept (fun k => k = g) w w' → wpList P ops Q rest (a.put op.dst undef) w') : wpList P ops Q (op :: rest) a w := by
  refine wpList_store_mid hgd ty x y ho g 0 cs hx hy (by rw [hn, ← hn0]; exact there_blk hb) (by rw [hi, hn]) h1 ?_
  obtain ⟨cs', e1, e2, e3⟩ := setCells_blk g T cs.toList 0 w cs0 hb (by rw [Array.length_toList]; omega)
  have : cs' = cs := by
    apply Array.toList_inj.1
    rw [e2, List.take_zero, List.nil_append, List.drop_eq_nil_of_le (by simp only [Array.length_toList]; omega), List.append_nil]
  subst this
  exact h _ e1 e3
end
theorem Tryd.size33 : (Tryd.prog.info? 33).map (·.size) = some 13 := by kernel_rfl
section
variable {w : World} {ops : Array Oper} {rest : List Oper} {op : Oper} {a : Act} {Q : Exit → Act → World → Prop}
/-- A span is loaded. -/
theorem wpList_load33 (hgd : op.guard = none) (x : Operand) (ho : op.op = .load 33 x)
    (g : Nat) (cs : Array Value) {T : TypeId} {fr : Nat × Nat} (hx : a.eval x = .pointer (some ⟨g, 0, none⟩)) (hb : w.heap[g]? = some (.cells cs T fr)) (hn : cs.size = 13)
    (h : wpList Tryd.prog ops Q rest (a.put op.dst (.agg cs)) w) : wpList Tryd.prog ops Q (op :: rest) a w :=
  wpList_load_blk hgd 33 x ho _ Tryd.underlying33 rfl 13 Tryd.size33 g cs hx hb hn h
/-- A span is stored. -/
theorem wpList_store33 (hgd : op.guard = none) (x y : Operand) (ho : op.op = .store 33 x y)
    (g : Nat) (cs0 cs : Array Value) {T : TypeId} (hx : a.eval x = .pointer (some ⟨g, 0, none⟩)) (hy : a.eval y = .agg cs) (hb : w.heap[g]? = some (.cells cs0 T (0, 0))) (hn : cs.size = 13) (hn0 : cs0.size = 13) (h1 : cs.all (·.oneCell') = true)
    (h : ∀ w', w'.heap[g]? = some (.cells cs T (0, 0)) → Kept (fun k => k = g) w w' → wpList Tryd.prog ops Q rest (a.put op.dst undef) w') : wpList Tryd.prog ops Q (op :: rest) a w :=
  wpList_store_blk hgd 33 x y ho 13 Tryd.size33 g cs0 cs hx hy hb hn hn0 h1 h
/-- What a function hands back whose first result is a span in a cell. -/
theorem ret33 {fn : Func} {R : Ending → World → Prop} {W : World} {p : Tmp} (h : fn.results = #[.cell p 33]) (g : Nat) (cs : Array Value) {T : TypeId} {fr : Nat × Nat} (hd : a.defers = [])
    (hp : a.tmps.getD p undef = .pointer (some ⟨g, 0, none⟩)) (hb : W.heap[g]? = some (.cells cs T fr)) (hn : cs.size = 13) (hR : R (.returned (.agg cs)) W) : bodyPost Tryd.prog fn R .ret a W :=
  bodyPost_ret_by (results_cell_row h a.tmps W g T cs fr _ hp hb Tryd.underlying33 rfl (by rw [Tryd.size33, hn])) hd hR
theorem ret33e {fn : Func} {R : Ending → World → Prop} {W : World} {p u : Tmp} (h : fn.results = #[.cell p 33, .tmp u]) (g : Nat) (cs : Array Value) (err : Value) {T : TypeId} {fr : Nat × Nat} (hd : a.defers = [])
    (hp : a.tmps.getD p undef = .pointer (some ⟨g, 0, none⟩)) (he : a.tmps.getD u undef = err) (hb : W.heap[g]? = some (.cells cs T fr)) (hn : cs.size = 13) (hR : R (.returned (.tuple #[.agg cs, err])) W) : bodyPost Tryd.prog fn R .ret a W := by
  refine bodyPost_ret_by (v := .tuple #[.agg cs, err]) ?_ hd hR
  rw [results_cell_tmp h, hp]
  have hl := run_loadVar_row W g T 33 cs fr _ hb Tryd.underlying33 rfl (by rw [Tryd.size33, hn])
  simp only [asAddr, Sem.run_pure, Result.andThen_ok, hl, he]
end
/-- Thirteen cells that were stored one by one. -/
theorem stored13 {w : World} {g : Nat} {cs : Array Value} {T : TypeId} (hb : w.heap[g]? = some (.cells cs T (0, 0))) (hn : cs.size = 13) (v0 v1 v2 v3 v4 v5 v6 v7 v8 v9 v10 v11 v12 : Value) :
    ∃ W, W = ((((((((((((w.setCell ⟨g, 0, none⟩ v0).setCell ⟨g, 1, none⟩ v1).setCell ⟨g, 2, none⟩ v2).setCell ⟨g, 3, none⟩ v3).setCell ⟨g, 4, none⟩ v4).setCell ⟨g, 5, none⟩ v5).setCell ⟨g, 6, none⟩ v6).setCell ⟨g, 7, none⟩ v7).setCell ⟨g, 8, none⟩ v8).setCell ⟨g, 9, none⟩ v9).setCell ⟨g, 10, none⟩ v10).setCell ⟨g, 11, none⟩ v11).setCell ⟨g, 12, none⟩ v12 ∧
      W.heap[g]? = some (.cells #[v0, v1, v2, v3, v4, v5, v6, v7, v8, v9, v10, v11, v12] T (0, 0)) ∧ Kept (fun k => k = g) w W := by
  obtain ⟨cs', e1, e2, e3⟩ := setCells_blk g T [v0, v1, v2, v3, v4, v5, v6, v7, v8, v9, v10, v11, v12] 0 w cs hb (by rw [hn]; simp)
  have : cs' = #[v0, v1, v2, v3, v4, v5, v6, v7, v8, v9, v10, v11, v12] := by
    apply Array.toList_inj.1
    rw [e2, List.take_zero, List.nil_append, List.drop_eq_nil_of_le (by simp [hn]), List.append_nil]
  subst this
  exact ⟨_, rfl, e1, e3⟩
end Go.Proofs.YtniigjfimggobaaDoor
