/- attrs and events: the orders of what stands in lists (the walks). -/
import Derived.Test.YtniigjfimggobaaDoorT1
import Derived.Test.YtniigjfimggobaaDoorQ
import Derived.BigQuiet
namespace Go.Proofs.YtniigjfimggobaaDoor
open Go.RowKit
set_option linter.unusedVariables false
set_option linter.unusedSimpArgs false

def Atr.cells (a : Atr) : List Value := [.string a.key, .int .i64 a.k, .string a.t, .int .i64 a.i]
def Evt.cells (e : Evt) : List Value := [.int .i64 e.at_, .string e.n]
def IntPost (x : Int) (w : World) (e : Ending) (w' : World) : Prop := e = .returned (.int .i64 x) ∧ Kept (fun _ => False) w w'
theorem NReads.new {w : World} (l : List Int) {c : Nat} : NReads (w.alloc (.cells (nums .i64 l).toArray 3)) (.slice (some ⟨w.heap.size, 0, none⟩) l.length c) l := by
  refine ⟨_, _, rfl, fun _ => ⟨_, _, rfl, fun i x hx => ?_⟩⟩
  rw [Nat.zero_add, blk_cell (heap_alloc_new w _)]
  simp [nums, hx]
theorem same_kept {P : Program} {f : FuncId} {args : Array Value} {w : World} {v : Value} (h : Calls P f args w fun e w' => e = .returned v ∧ w' = w) : Calls P f args w fun e w' => e = .returned v ∧ Kept (fun _ => False) w w' :=
  h.mono fun _ _ ⟨e, h⟩ => ⟨e, by rw [h]; exact .refl _ _⟩
/-- Two blocks more. -/
theorem box2 (w : World) (a b : Obj) : Kept (fun _ => False) w ((w.alloc a).alloc b) ∧ ((w.alloc a).alloc b).heap[w.heap.size]? = some a ∧ ((w.alloc a).alloc b).heap[w.heap.size + 1]? = some b := by
  have hs : (w.alloc a).heap.size = w.heap.size + 1 := by simp
  refine ⟨(Kept.alloc _ w a).trans (.alloc _ _ b) (fun _ _ e => e) (fun _ _ e => e), ?_, ?_⟩
  · exact blk_kept (Kept.alloc (fun _ => False) (w.alloc a) b) (heap_alloc_new w a) (fun e => e)
  · rw [← hs]; exact heap_alloc_new (w.alloc a) b
set_option maxHeartbeats 4000000 in
set_option maxRecDepth 100000 in
theorem attrs_any (a b : Atr) (w : World) : Calls Tryd.prog 33 #[.agg a.cells.toArray, .agg b.cells.toArray] w (IntPost (atrC a b) w) := by
  obtain ⟨W, hW⟩ : ∃ W, W = (w.alloc (.cells a.cells.toArray 66)).alloc (.cells b.cells.toArray 66) := ⟨_, rfl⟩
  obtain ⟨hk, ha, hb⟩ := box2 w (.cells a.cells.toArray 66) (.cells b.cells.toArray 66)
  rw [← hW] at hk ha hb
  have hW2 := hW.symm
  have HK := Lib.hid hk
  clear hW hk
  have a0 := fun p : Later W => p.cell ((blk_cell ha 0).trans rfl : W.cell? ⟨w.heap.size, 0, none⟩ = some (.string a.key))
  have a1 := fun p : Later W => p.cell ((blk_cell ha 1).trans rfl : W.cell? ⟨w.heap.size, 1, none⟩ = some (.int .i64 a.k))
  have a2 := fun p : Later W => p.cell ((blk_cell ha 2).trans rfl : W.cell? ⟨w.heap.size, 2, none⟩ = some (.string a.t))
  have a3 := fun p : Later W => p.cell ((blk_cell ha 3).trans rfl : W.cell? ⟨w.heap.size, 3, none⟩ = some (.int .i64 a.i))
  have b0 := fun p : Later W => p.cell ((blk_cell hb 0).trans rfl : W.cell? ⟨w.heap.size + 1, 0, none⟩ = some (.string b.key))
  have b1 := fun p : Later W => p.cell ((blk_cell hb 1).trans rfl : W.cell? ⟨w.heap.size + 1, 1, none⟩ = some (.int .i64 b.k))
  have b2 := fun p : Later W => p.cell ((blk_cell hb 2).trans rfl : W.cell? ⟨w.heap.size + 1, 2, none⟩ = some (.string b.t))
  have b3 := fun p : Later W => p.cell ((blk_cell hb 3).trans rfl : W.cell? ⟨w.heap.size + 1, 3, none⟩ = some (.int .i64 b.i))
  clear ha hb
  go_enter Tryd.func33, Tryd.ntmps33
  go_wp2_with fail
  refine wp_region_later_tail 26 (by kernel_rfl) (by kernel_rfl) ?_
  simp only [List.take_succ_cons, List.take_zero, List.drop_succ_cons, List.drop_zero]
  repeat (go_big_quiet_step (first | exact Calls.later_of (same_kept (Tryd.strings_Compare _ _ _)) | exact Calls.later_of (same_kept (cmp66 _ _ _)) | exact Calls.later_of (same_kept (cmp26 _ _ _))))
  refine wpQuiet_nil ?_
  intro p
  go_wp2_with fail
  refine (or_any [Lib.compareBytes a.key.data.toList b.key.data.toList, Lib.compareInt a.k b.k, Lib.compareBytes a.t.data.toList b.t.data.toList, Lib.compareInt a.i b.i] _ _ (NReads.new _) (by simp)).mono ?_
  rintro e w' ⟨rfl, rfl⟩
  go_wp2_with fail
  go_ret
  exact ⟨rfl, (p.old HK.out).trans (.alloc _ _ _) (fun _ _ e => e) (fun _ _ e => e)⟩
set_option maxHeartbeats 4000000 in
set_option maxRecDepth 100000 in
theorem events_any (a b : Evt) (w : World) : Calls Tryd.prog 35 #[.agg a.cells.toArray, .agg b.cells.toArray] w (IntPost (evtC a b) w) := by
  obtain ⟨W, hW⟩ : ∃ W, W = (w.alloc (.cells a.cells.toArray 68)).alloc (.cells b.cells.toArray 68) := ⟨_, rfl⟩
  obtain ⟨hk, ha, hb⟩ := box2 w (.cells a.cells.toArray 68) (.cells b.cells.toArray 68)
  rw [← hW] at hk ha hb
  have hW2 := hW.symm
  have HK := Lib.hid hk
  clear hW hk
  have a0 := fun p : Later W => p.cell ((blk_cell ha 0).trans rfl : W.cell? ⟨w.heap.size, 0, none⟩ = some (.int .i64 a.at_))
  have a1 := fun p : Later W => p.cell ((blk_cell ha 1).trans rfl : W.cell? ⟨w.heap.size, 1, none⟩ = some (.string a.n))
  have b0 := fun p : Later W => p.cell ((blk_cell hb 0).trans rfl : W.cell? ⟨w.heap.size + 1, 0, none⟩ = some (.int .i64 b.at_))
  have b1 := fun p : Later W => p.cell ((blk_cell hb 1).trans rfl : W.cell? ⟨w.heap.size + 1, 1, none⟩ = some (.string b.n))
  clear ha hb
  go_enter Tryd.func35, Tryd.ntmps35
  go_wp2_with fail
  refine wp_region_later_tail 10 (by kernel_rfl) (by kernel_rfl) ?_
  simp only [List.take_succ_cons, List.take_zero, List.drop_succ_cons, List.drop_zero]
  repeat (go_big_quiet_step (first | exact Calls.later_of (same_kept (Tryd.strings_Compare _ _ _)) | exact Calls.later_of (same_kept (cmp26 _ _ _))))
  refine wpQuiet_nil ?_
  intro p
  go_wp2_with fail
  refine (or_any [Lib.compareInt a.at_ b.at_, Lib.compareBytes a.n.data.toList b.n.data.toList] _ _ (NReads.new _) (by simp)).mono ?_
  rintro e w' ⟨rfl, rfl⟩
  go_wp2_with fail
  go_ret
  exact ⟨rfl, (p.old HK.out).trans (.alloc _ _ _) (fun _ _ e => e) (fun _ _ e => e)⟩
end Go.Proofs.YtniigjfimggobaaDoor
