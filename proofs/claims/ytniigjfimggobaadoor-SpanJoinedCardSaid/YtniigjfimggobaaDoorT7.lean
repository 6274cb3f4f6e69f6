/- Compare: which of two spans is the greater one (the walk). -/
import Derived.Test.YtniigjfimggobaaDoorT6
namespace Go.Proofs.YtniigjfimggobaaDoor
open Go.RowKit
set_option linter.unusedVariables false
set_option linter.unusedSimpArgs false

set_option maxHeartbeats 16000000 in
set_option maxRecDepth 100000 in
theorem compare_any (s t : Spn) (lv av ev lu au eu : Value) (w : World) (hs : SReads w s lv av ev) (ht : SReads w t lu au eu) : Calls Tryd.prog 13 #[.agg (s.cells lv av ev), .agg (t.cells lu au eu)] w (IntPost (spnC s t) w) := by
  have hs0 := hs
  have ht0 := ht
  obtain ⟨⟨slA, slc, rfl, -⟩, ⟨saA, sac, rfl, -⟩, ⟨seA, sec, rfl, -⟩, -, -, -⟩ := hs
  obtain ⟨⟨tlA, tlc, rfl, -⟩, ⟨taA, tac, rfl, -⟩, ⟨teA, tec, rfl, -⟩, -, -, -⟩ := ht
  obtain ⟨X, hX⟩ : ∃ X, X = s.cells (.slice slA s.links.length slc) (.slice saA s.ats.length sac) (.slice seA s.evs.length sec) := ⟨_, rfl⟩
  obtain ⟨Y, hY⟩ : ∃ Y, Y = t.cells (.slice tlA t.links.length tlc) (.slice taA t.ats.length tac) (.slice teA t.evs.length tec) := ⟨_, rfl⟩
  obtain ⟨W, hW⟩ : ∃ W, W = (w.alloc (.cells X 33)).alloc (.cells Y 33) := ⟨_, rfl⟩
  obtain ⟨hk, ha, hb⟩ := box2 w (.cells X 33) (.cells Y 33)
  rw [← hW] at hk ha hb
  have hW2 := hW.symm
  have hsw := hs0.kept hk
  have htw := ht0.kept hk
  rw [hX] at ha
  rw [hY] at hb
  have a0 : W.cell? ⟨w.heap.size, 0, none⟩ = some (.int .u64 s.hi) := (blk_cell ha 0).trans rfl
  have b0 : W.cell? ⟨w.heap.size + 1, 0, none⟩ = some (.int .u64 t.hi) := (blk_cell hb 0).trans rfl
  have a1 : W.cell? ⟨w.heap.size, 1, none⟩ = some (.int .u64 s.lo) := (blk_cell ha 1).trans rfl
  have b1 : W.cell? ⟨w.heap.size + 1, 1, none⟩ = some (.int .u64 t.lo) := (blk_cell hb 1).trans rfl
  have a2 : W.cell? ⟨w.heap.size, 2, none⟩ = some (.int .u64 s.id) := (blk_cell ha 2).trans rfl
  have b2 : W.cell? ⟨w.heap.size + 1, 2, none⟩ = some (.int .u64 t.id) := (blk_cell hb 2).trans rfl
  have a3 : W.cell? ⟨w.heap.size, 3, none⟩ = some (.int .u64 s.par) := (blk_cell ha 3).trans rfl
  have b3 : W.cell? ⟨w.heap.size + 1, 3, none⟩ = some (.int .u64 t.par) := (blk_cell hb 3).trans rfl
  have a4 : W.cell? ⟨w.heap.size, 4, none⟩ = some (.slice slA s.links.length slc) := (blk_cell ha 4).trans rfl
  have b4 : W.cell? ⟨w.heap.size + 1, 4, none⟩ = some (.slice tlA t.links.length tlc) := (blk_cell hb 4).trans rfl
  have a5 : W.cell? ⟨w.heap.size, 5, none⟩ = some (.string s.svc) := (blk_cell ha 5).trans rfl
  have b5 : W.cell? ⟨w.heap.size + 1, 5, none⟩ = some (.string t.svc) := (blk_cell hb 5).trans rfl
  have a6 : W.cell? ⟨w.heap.size, 6, none⟩ = some (.string s.op) := (blk_cell ha 6).trans rfl
  have b6 : W.cell? ⟨w.heap.size + 1, 6, none⟩ = some (.string t.op) := (blk_cell hb 6).trans rfl
  have a7 : W.cell? ⟨w.heap.size, 7, none⟩ = some (.int .i64 s.kind) := (blk_cell ha 7).trans rfl
  have b7 : W.cell? ⟨w.heap.size + 1, 7, none⟩ = some (.int .i64 t.kind) := (blk_cell hb 7).trans rfl
  have a8 : W.cell? ⟨w.heap.size, 8, none⟩ = some (.int .i64 s.st) := (blk_cell ha 8).trans rfl
  have b8 : W.cell? ⟨w.heap.size + 1, 8, none⟩ = some (.int .i64 t.st) := (blk_cell hb 8).trans rfl
  have a9 : W.cell? ⟨w.heap.size, 9, none⟩ = some (.int .i64 s.start) := (blk_cell ha 9).trans rfl
  have b9 : W.cell? ⟨w.heap.size + 1, 9, none⟩ = some (.int .i64 t.start) := (blk_cell hb 9).trans rfl
  have a10 : W.cell? ⟨w.heap.size, 10, none⟩ = some (.int .i64 s.fin) := (blk_cell ha 10).trans rfl
  have b10 : W.cell? ⟨w.heap.size + 1, 10, none⟩ = some (.int .i64 t.fin) := (blk_cell hb 10).trans rfl
  have a11 : W.cell? ⟨w.heap.size, 11, none⟩ = some (.slice saA s.ats.length sac) := (blk_cell ha 11).trans rfl
  have b11 : W.cell? ⟨w.heap.size + 1, 11, none⟩ = some (.slice taA t.ats.length tac) := (blk_cell hb 11).trans rfl
  have a12 : W.cell? ⟨w.heap.size, 12, none⟩ = some (.slice seA s.evs.length sec) := (blk_cell ha 12).trans rfl
  have b12 : W.cell? ⟨w.heap.size + 1, 12, none⟩ = some (.slice teA t.evs.length tec) := (blk_cell hb 12).trans rfl
  have A0 := fun p : Later W => p.cell a0
  have B0 := fun p : Later W => p.cell b0
  have A1 := fun p : Later W => p.cell a1
  have B1 := fun p : Later W => p.cell b1
  have A2 := fun p : Later W => p.cell a2
  have B2 := fun p : Later W => p.cell b2
  have A3 := fun p : Later W => p.cell a3
  have B3 := fun p : Later W => p.cell b3
  have A4 := fun p : Later W => p.cell a4
  have B4 := fun p : Later W => p.cell b4
  have A5 := fun p : Later W => p.cell a5
  have B5 := fun p : Later W => p.cell b5
  have A6 := fun p : Later W => p.cell a6
  have B6 := fun p : Later W => p.cell b6
  have A7 := fun p : Later W => p.cell a7
  have B7 := fun p : Later W => p.cell b7
  have A8 := fun p : Later W => p.cell a8
  have B8 := fun p : Later W => p.cell b8
  have A9 := fun p : Later W => p.cell a9
  have B9 := fun p : Later W => p.cell b9
  have A10 := fun p : Later W => p.cell a10
  have B10 := fun p : Later W => p.cell b10
  have A11 := fun p : Later W => p.cell a11
  have B11 := fun p : Later W => p.cell b11
  have A12 := fun p : Later W => p.cell a12
  have B12 := fun p : Later W => p.cell b12
  have cOf := fun p : Later W => Calls.later_of (of_any s slA saA seA s.links.length slc s.ats.length sac s.evs.length sec p.w')
  have cOf2 := fun p : Later W => Calls.later_of (of_any t tlA taA teA t.links.length tlc t.ats.length tac t.evs.length tec p.w')
  have cAg := fun p : Later W => Calls.later_of (against_any s t (s.cells (.slice slA s.links.length slc) (.slice saA s.ats.length sac) (.slice seA s.evs.length sec)) (t.cells (.slice tlA t.links.length tlc) (.slice taA t.ats.length tac) (.slice teA t.evs.length tec)) p.w')
  have HC := Lib.hid (And.intro cOf (And.intro cOf2 cAg))
  have HS := Lib.hid (And.intro hsw (And.intro htw (And.intro hk (And.intro hX hY))))
  have HA := Lib.hid (And.intro hs0 ht0)
  clear cOf cOf2 cAg ha hb hsw htw hk hs0 ht0 hW a0 b0 a1 b1 a2 b2 a3 b3 a4 b4 a5 b5 a6 b6 a7 b7 a8 b8 a9 b9 a10 b10 a11 b11 a12 b12
  rw [← hX, ← hY]
  clear hX hY
  go_enter Tryd.func13, Tryd.ntmps13
  go_wp2_with fail
  refine wp_region_later (by kernel_rfl) (by kernel_rfl) ?_
  repeat (go_big_quiet_step (first | exact HC.out.1 _ | exact HC.out.2.1 _ | exact HC.out.2.2 _))
  refine wpQuiet_nil ?_
  intro p
  obtain ⟨W1, hW1⟩ : ∃ W1, W1 = p.w' := ⟨_, rfl⟩
  have HW1 : Kept (fun _ => False) W W1 := by rw [hW1]; exact p.kept
  rw [← hW1]
  have c0 := A0 p
  have d0 := B0 p
  rw [← hW1] at c0 d0
  have c1 := A1 p
  have d1 := B1 p
  rw [← hW1] at c1 d1
  have c2 := A2 p
  have d2 := B2 p
  rw [← hW1] at c2 d2
  have c3 := A3 p
  have d3 := B3 p
  rw [← hW1] at c3 d3
  have c4 := A4 p
  have d4 := B4 p
  rw [← hW1] at c4 d4
  have c5 := A5 p
  have d5 := B5 p
  rw [← hW1] at c5 d5
  have c6 := A6 p
  have d6 := B6 p
  rw [← hW1] at c6 d6
  have c7 := A7 p
  have d7 := B7 p
  rw [← hW1] at c7 d7
  have c8 := A8 p
  have d8 := B8 p
  rw [← hW1] at c8 d8
  have c9 := A9 p
  have d9 := B9 p
  rw [← hW1] at c9 d9
  have c10 := A10 p
  have d10 := B10 p
  rw [← hW1] at c10 d10
  have c11 := A11 p
  have d11 := B11 p
  rw [← hW1] at c11 d11
  have c12 := A12 p
  have d12 := B12 p
  rw [← hW1] at c12 d12
  have C0 := fun p : Later W1 => p.cell c0
  have D0 := fun p : Later W1 => p.cell d0
  have C1 := fun p : Later W1 => p.cell c1
  have D1 := fun p : Later W1 => p.cell d1
  have C2 := fun p : Later W1 => p.cell c2
  have D2 := fun p : Later W1 => p.cell d2
  have C3 := fun p : Later W1 => p.cell c3
  have D3 := fun p : Later W1 => p.cell d3
  have C4 := fun p : Later W1 => p.cell c4
  have D4 := fun p : Later W1 => p.cell d4
  have C5 := fun p : Later W1 => p.cell c5
  have D5 := fun p : Later W1 => p.cell d5
  have C6 := fun p : Later W1 => p.cell c6
  have D6 := fun p : Later W1 => p.cell d6
  have C7 := fun p : Later W1 => p.cell c7
  have D7 := fun p : Later W1 => p.cell d7
  have C8 := fun p : Later W1 => p.cell c8
  have D8 := fun p : Later W1 => p.cell d8
  have C9 := fun p : Later W1 => p.cell c9
  have D9 := fun p : Later W1 => p.cell d9
  have C10 := fun p : Later W1 => p.cell c10
  have D10 := fun p : Later W1 => p.cell d10
  have C11 := fun p : Later W1 => p.cell c11
  have D11 := fun p : Later W1 => p.cell d11
  have C12 := fun p : Later W1 => p.cell c12
  have D12 := fun p : Later W1 => p.cell d12
  have HS1 := Lib.hid (And.intro (HS.out.1.kept HW1) (HS.out.2.1.kept HW1))
  have HK1 := Lib.hid (HS.out.2.2.1.trans HW1 (fun _ _ e => e) (fun _ _ e => e))
  clear HC HS HA hW1 HW1 hW2 A0 B0 c0 d0 A1 B1 c1 d1 A2 B2 c2 d2 A3 B3 c3 d3 A4 B4 c4 d4 A5 B5 c5 d5 A6 B6 c6 d6 A7 B7 c7 d7 A8 B8 c8 d8 A9 B9 c9 d9 A10 B10 c10 d10 A11 B11 c11 d11 A12 B12 c12 d12
  clear p
  by_cases hz : nameC s t = 0
  case neg =>
    have E : (nameC s t != 0) = true := by simp [hz]
    have hsp : spnC s t = nameC s t := by unfold spnC; rw [if_neg hz]
    have HZ := Lib.hid hsp
    clear hz hsp
    go_wp2_with fail
    go_ret
    exact ⟨by rw [HZ.out]; rfl, HK1.out⟩
  case pos =>
    have E : (nameC s t != 0) = false := by simp [hz]
    have hsp : spnC s t = restC s t := by unfold spnC; rw [if_pos hz]
    have HZ := Lib.hid hsp
    clear hz hsp
    go_wp2_with fail
    refine wp_region_later_tail 50 (by kernel_rfl) (by kernel_rfl) ?_
    simp only [List.take_succ_cons, List.take_zero, List.drop_succ_cons, List.drop_zero]
    repeat (go_big_quiet_step (first | exact Calls.later_of (same_kept (cmp26 _ _ _)) | exact Calls.later_of (same_kept (cmp27 _ _ _)) | exact Calls.later_of (same_kept (cmp28 _ _ _)) | exact Calls.later_of (same_kept (cmp30 _ _ _)) | exact Calls.later_of (same_kept (Tryd.strings_Compare _ _ _)) | (refine Calls.later_of (same_kept (cmpLinks_any _ _ _ _ _ (HS1.out.1.links.kept ?_) (HS1.out.2.links.kept ?_) HS1.out.1.l0 HS1.out.2.l0)) <;> exact Later.kept _) | (refine Calls.later_of (cmpAttrs_any _ _ _ _ _ (HS1.out.1.ats.kept ?_) (HS1.out.2.ats.kept ?_) HS1.out.1.a0 HS1.out.2.a0) <;> exact Later.kept _) | (refine Calls.later_of (cmpEvents_any _ _ _ _ _ (HS1.out.1.evs.kept ?_) (HS1.out.2.evs.kept ?_) HS1.out.1.e0 HS1.out.2.e0) <;> exact Later.kept _)))
    refine wpQuiet_nil ?_
    intro p
    go_wp2_with fail
    refine (or_any [Lib.compareInt s.fin t.fin, Lib.compareInt t.start s.start, Lib.compareInt s.st t.st, natC s.par t.par, strC s.svc t.svc, strC s.op t.op, Lib.compareInt s.kind t.kind, listC natC s.links t.links, listC atrC s.ats t.ats, listC evtC s.evs t.evs] _ _ (NReads.new _) (by simp)).mono ?_
    rintro e w' ⟨rfl, rfl⟩
    go_wp2_with fail
    go_ret
    refine ⟨by rw [HZ.out]; rfl, HK1.out.trans ((p.kept).trans (.alloc _ _ _) (fun _ _ e => e) (fun _ _ e => e)) (fun _ _ e => e) (fun _ _ e => e)⟩
end Go.Proofs.YtniigjfimggobaaDoor
