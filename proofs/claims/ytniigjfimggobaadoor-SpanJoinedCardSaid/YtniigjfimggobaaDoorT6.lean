/- The order of names (the walk). -/
import Derived.Test.YtniigjfimggobaaDoorT5
namespace Go.Proofs.YtniigjfimggobaaDoor
open Go.RowKit
set_option linter.unusedVariables false
set_option linter.unusedSimpArgs false

set_option maxHeartbeats 4000000 in
set_option maxRecDepth 100000 in
theorem against_any (s t : Spn) (x y : Array Value) (w : World) : Calls Tryd.prog 24 #[.agg (#[.int .u64 s.hi, .int .u64 s.lo, .int .u64 s.id] ++ x), .agg (#[.int .u64 t.hi, .int .u64 t.lo, .int .u64 t.id] ++ y)] w (IntPost (nameC s t) w) := by
  obtain ⟨X, hX⟩ : ∃ X, X = #[.int .u64 s.hi, .int .u64 s.lo, .int .u64 s.id] ++ x := ⟨_, rfl⟩
  obtain ⟨Y, hY⟩ : ∃ Y, Y = #[.int .u64 t.hi, .int .u64 t.lo, .int .u64 t.id] ++ y := ⟨_, rfl⟩
  rw [← hX, ← hY]
  obtain ⟨W, hW⟩ : ∃ W, W = (w.alloc (.cells X 58)).alloc (.cells Y 58) := ⟨_, rfl⟩
  obtain ⟨hk, ha, hb⟩ := box2 w (.cells X 58) (.cells Y 58)
  rw [← hW] at hk ha hb
  have hW2 := hW.symm
  have HK := Lib.hid hk
  clear hW hk
  have xs : X[0]? = some (.int .u64 s.hi) ∧ X[1]? = some (.int .u64 s.lo) ∧ X[2]? = some (.int .u64 s.id) := by rw [hX]; refine ⟨?_, ?_, ?_⟩ <;> rw [Array.getElem?_append_left (by simp)] <;> rfl
  have ys : Y[0]? = some (.int .u64 t.hi) ∧ Y[1]? = some (.int .u64 t.lo) ∧ Y[2]? = some (.int .u64 t.id) := by rw [hY]; refine ⟨?_, ?_, ?_⟩ <;> rw [Array.getElem?_append_left (by simp)] <;> rfl
  have a0 : W.cell? ⟨w.heap.size, 0, none⟩ = some (.int .u64 s.hi) := (blk_cell ha 0).trans xs.1
  have a1 : W.cell? ⟨w.heap.size, 1, none⟩ = some (.int .u64 s.lo) := (blk_cell ha 1).trans xs.2.1
  have a2 : W.cell? ⟨w.heap.size, 2, none⟩ = some (.int .u64 s.id) := (blk_cell ha 2).trans xs.2.2
  have b0 : W.cell? ⟨w.heap.size + 1, 0, none⟩ = some (.int .u64 t.hi) := (blk_cell hb 0).trans ys.1
  have b1 : W.cell? ⟨w.heap.size + 1, 1, none⟩ = some (.int .u64 t.lo) := (blk_cell hb 1).trans ys.2.1
  have b2 : W.cell? ⟨w.heap.size + 1, 2, none⟩ = some (.int .u64 t.id) := (blk_cell hb 2).trans ys.2.2
  have A0 := fun p : Later W => p.cell a0
  have A1 := fun p : Later W => p.cell a1
  have A2 := fun p : Later W => p.cell a2
  have B0 := fun p : Later W => p.cell b0
  have B1 := fun p : Later W => p.cell b1
  have B2 := fun p : Later W => p.cell b2
  clear ha hb xs ys hX hY
  have hcase : ((((s.hi : Int) = t.hi) = True ∧ ((s.lo : Int) = t.lo) = True ∧ ((s.id : Int) = t.id) = True) ∧ nameC s t = 0) ∨ ((((s.hi : Int) = t.hi) = False ∨ (((s.hi : Int) = t.hi) = True ∧ ((s.lo : Int) = t.lo) = False)) ∨ (((s.hi : Int) = t.hi) = True ∧ ((s.lo : Int) = t.lo) = True ∧ ((s.id : Int) = t.id) = False)) := by
    by_cases e1 : (s.hi : Int) = t.hi
    · by_cases e2 : (s.lo : Int) = t.lo
      · by_cases e3 : (s.id : Int) = t.id
        · refine .inl ⟨⟨eq_true e1, eq_true e2, eq_true e3⟩, ?_⟩
          unfold nameC
          rw [orFirst_zero]
          simp only [List.mem_cons, List.not_mem_nil, or_false, forall_eq_or_imp, forall_eq, nat_zero]
          omega
        · exact .inr (.inr ⟨eq_true e1, eq_true e2, eq_false e3⟩)
      · exact .inr (.inl (.inr ⟨eq_true e1, eq_false e2⟩))
    · exact .inr (.inl (.inl (eq_false e1)))
  rcases hcase with ⟨⟨E1, E2, E3⟩, hz⟩ | (E1 | ⟨E1, E2⟩) | ⟨E1, E2, E3⟩
  · have HZ := Lib.hid hz
    clear hz
    go_enter Tryd.func24, Tryd.ntmps24
    go_wp2_with fail
    go_ret
    exact ⟨by rw [HZ.out]; rfl, HK.out⟩
  all_goals
    go_enter Tryd.func24, Tryd.ntmps24
    go_wp2_with fail
    refine wp_region_later_tail 25 (by kernel_rfl) (by kernel_rfl) ?_
    simp only [List.take_succ_cons, List.take_zero, List.drop_succ_cons, List.drop_zero]
    repeat (go_big_quiet_step (first | exact Calls.later_of (same_kept (cmp60 _ _ _)) | exact Calls.later_of (same_kept (cmp28 _ _ _))))
    refine wpQuiet_nil ?_
    intro p
    go_wp2_with fail
    refine (or_any [Lib.compareInt s.hi t.hi, Lib.compareInt s.lo t.lo, Lib.compareInt s.id t.id] _ _ (NReads.new _) (by simp)).mono ?_
    rintro e w' ⟨rfl, rfl⟩
    go_wp2_with fail
    go_ret
    exact ⟨rfl, (p.old HK.out).trans (.alloc _ _ _) (fun _ _ e => e) (fun _ _ e => e)⟩
end Go.Proofs.YtniigjfimggobaaDoor
