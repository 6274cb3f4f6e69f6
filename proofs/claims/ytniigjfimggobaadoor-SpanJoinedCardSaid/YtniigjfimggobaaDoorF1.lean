/- Join (the walk). -/
import Derived.Test.YtniigjfimggobaaDoorM
import Derived.Test.YtniigjfimggobaaDoorT7
import Derived.Test.YtniigjfimggobaaDoorS6
import Derived.Test.YtniigjfimggobaaDoorU3
namespace Go.Proofs.YtniigjfimggobaaDoor
open Go.RowKit
set_option linter.unusedVariables false
set_option linter.unusedSimpArgs false

/-- Why two spans are not joined. -/
def joinN (s t : Spn) : Int := if s.hi = t.hi ∧ s.lo = t.lo ∧ s.id = t.id then (if checkS s = 0 then checkS t else checkS s) else 1
def JoinPost (s t : Spn) (w : World) (e : Ending) (w' : World) : Prop :=
  (if joinN s t = 0 then ∃ lv av ev, e = .returned (.tuple #[.agg ((joinS s t).cells lv av ev), .int .i64 0]) ∧ SReads w' (joinS s t) lv av ev
  else e = .returned (.tuple #[.agg zcells, .int .i64 (joinN s t)])) ∧ Kept (fun _ => False) w w'
theorem joinPost_no {s t : Spn} {w w' : World} {e : Ending} (n : Int) (hn : joinN s t = n) (h0 : n ≠ 0) (he : e = .returned (.tuple #[.agg zcells, .int .i64 n])) (hk : Kept (fun _ => False) w w') : JoinPost s t w e w' := by
  refine ⟨?_, hk⟩
  rw [if_neg (by rw [hn]; exact h0), hn]
  exact he
theorem box3 (w : World) (a b c : Obj) : Kept (fun _ => False) w (((w.alloc a).alloc b).alloc c) ∧ (((w.alloc a).alloc b).alloc c).heap[w.heap.size]? = some a ∧ (((w.alloc a).alloc b).alloc c).heap[w.heap.size + 1]? = some b ∧ (((w.alloc a).alloc b).alloc c).heap[w.heap.size + 2]? = some c := by
  obtain ⟨h1, h2, h3⟩ := box2 w a b
  have hk := Kept.alloc (fun _ => False) ((w.alloc a).alloc b) c
  refine ⟨h1.trans hk (fun _ _ e => e) (fun _ _ e => e), blk_kept hk h2 (fun h => h), blk_kept hk h3 (fun h => h), ?_⟩
  have := heap_alloc_new ((w.alloc a).alloc b) c
  simpa using this
structure JoinAt (X Y : Array Value) (vb : Nat) (w wr : World) : Prop where
  kept : Kept (fun _ => False) w wr
  a : wr.heap[w.heap.size]? = some (.cells X 33 (0, 0))
  b : wr.heap[w.heap.size + 1]? = some (.cells Y 33 (0, 0))
  r : wr.heap[w.heap.size + 2]? = some (.cells zcells 33 (0, 0))
  v : wr.heap[vb]? = some (.cells (X ++ Y) 33 (0, 0))
theorem JoinAt.later {X Y : Array Value} {vb : Nat} {w wr w2 : World} (h : JoinAt X Y vb w wr) (hk : Kept (fun _ => False) wr w2) : JoinAt X Y vb w w2 :=
  ⟨h.kept.trans hk (fun _ _ e => e) (fun _ _ e => e), blk_kept hk h.a (fun h => h), blk_kept hk h.b (fun h => h), blk_kept hk h.r (fun h => h), blk_kept hk h.v (fun h => h)⟩
theorem zcells_one : zcells.all (·.oneCell') = true := by simp [zcells, Value.oneCell']
theorem two_get (X Y : Array Value) (hX : X.size = 13) (hY : Y.size = 13) (k j : Nat) (hk : k < 2) (hj : j < 13) : (X ++ Y)[k * 13 + j]? = if k = 0 then X[j]? else Y[j]? := by
  by_cases h : k = 0
  · subst h; rw [if_pos rfl, Nat.zero_mul, Nat.zero_add, Array.getElem?_append_left (by omega)]
  · obtain rfl : k = 1 := by omega
    rw [if_neg (by omega), Array.getElem?_append_right (by omega)]
    congr 1; omega
theorem range_two {w : World} {vb : Nat} {X Y : Array Value} (hb : w.heap[vb]? = some (.cells (X ++ Y) 33 (0, 0))) (hX : X.size = 13) : w.rangeAt vb 0 X.toList ∧ w.rangeAt vb 13 Y.toList := by
  constructor
  · intro j v hv
    have hj : j < X.size := by have := (List.getElem?_eq_some_iff.1 hv).1; simpa using this
    rw [Nat.zero_add, blk_cell hb, Array.getElem?_append_left hj, ← hv, Array.getElem?_toList]
  · intro j v hv
    rw [blk_cell hb, Array.getElem?_append_right (by omega), ← hv, Array.getElem?_toList]
    congr 1; omega
theorem wpList_load33_mid {w : World} {ops : Array Oper} {rest : List Oper} {op : Oper} {a : Act} {Q : Exit → Act → World → Prop} (hgd : op.guard = none) (x : Operand) (ho : op.op = .load 33 x)
    (g o : Nat) (cs : Array Value) (hx : a.eval x = .pointer (some ⟨g, o, none⟩)) (hc : w.rangeAt g o cs.toList) (hn : cs.size = 13)
    (h : wpList Tryd.prog ops Q rest (a.put op.dst (.agg cs)) w) : wpList Tryd.prog ops Q (op :: rest) a w :=
  wpList_load_mid hgd 33 x ho g o hx cs.toList _ hc Tryd.underlying33 rfl (by rw [Tryd.size33, Array.length_toList, hn]) (by simpa using h)
theorem of_lit (s : Spn) (slA saA seA : Option Addr) (slc sac sec : Nat) (w : World) : Calls Tryd.prog 22 #[.agg #[.int .u64 s.hi, .int .u64 s.lo, .int .u64 s.id, .int .u64 s.par, .slice slA s.links.length slc, .string s.svc, .string s.op, .int .i64 s.kind, .int .i64 s.st, .int .i64 s.start, .int .i64 s.fin, .slice saA s.ats.length sac, .slice seA s.evs.length sec]] w fun e w' => e = .returned (.agg #[.int .u64 s.hi, .int .u64 s.lo, .int .u64 s.id, .int .u64 s.hi, .int .u64 s.lo, .int .u64 s.id, .int .u64 s.par, .slice slA s.links.length slc, .string s.svc, .string s.op, .int .i64 s.kind, .int .i64 s.st, .int .i64 s.start, .int .i64 s.fin, .slice saA s.ats.length sac, .slice seA s.evs.length sec]) ∧ Kept (fun _ => False) w w' := by
  have h := of_any s slA saA seA s.links.length slc s.ats.length sac s.evs.length sec w
  have e : #[Value.int .u64 s.hi, .int .u64 s.lo, .int .u64 s.id] ++ s.cells (.slice slA s.links.length slc) (.slice saA s.ats.length sac) (.slice seA s.evs.length sec) = #[.int .u64 s.hi, .int .u64 s.lo, .int .u64 s.id, .int .u64 s.hi, .int .u64 s.lo, .int .u64 s.id, .int .u64 s.par, .slice slA s.links.length slc, .string s.svc, .string s.op, .int .i64 s.kind, .int .i64 s.st, .int .i64 s.start, .int .i64 s.fin, .slice saA s.ats.length sac, .slice seA s.evs.length sec] := by simp [Spn.cells]
  rw [e] at h
  exact h
theorem field_lit (s : Spn) (slA saA seA : Option Addr) (slc sac sec : Nat) (w : World) : (Instr.field 58 (.agg #[.int .u64 s.hi, .int .u64 s.lo, .int .u64 s.id, .int .u64 s.hi, .int .u64 s.lo, .int .u64 s.id, .int .u64 s.par, .slice slA s.links.length slc, .string s.svc, .string s.op, .int .i64 s.kind, .int .i64 s.st, .int .i64 s.start, .int .i64 s.fin, .slice saA s.ats.length sac, .slice seA s.evs.length sec]) 0).run Tryd.prog w = .ok (.agg #[.int .u64 s.hi, .int .u64 s.lo, .int .u64 s.id]) w := by kernel_rfl
set_option maxHeartbeats 16000000 in
set_option maxRecDepth 100000 in
theorem join_any (s t : Spn) (lv av ev lu au eu : Value) (w : World) (hs : SReads w s lv av ev) (ht : SReads w t lu au eu) (hzs : Sized s) (hzt : Sized t) (hU : Lib.Utf8Tabs 0 1 w) : Calls Tryd.prog 11 #[.agg (s.cells lv av ev), .agg (t.cells lu au eu)] w (JoinPost s t w) := by
  have hs0 := hs
  have ht0 := ht
  obtain ⟨⟨slA, slc, rfl, -⟩, ⟨saA, sac, rfl, -⟩, ⟨seA, sec, rfl, -⟩, -, -, -⟩ := hs
  obtain ⟨⟨tlA, tlc, rfl, -⟩, ⟨taA, tac, rfl, -⟩, ⟨teA, tec, rfl, -⟩, -, -, -⟩ := ht
  have HU := Lib.hid hU
  obtain ⟨X, hX⟩ : ∃ X, X = s.cells (.slice slA s.links.length slc) (.slice saA s.ats.length sac) (.slice seA s.evs.length sec) := ⟨_, rfl⟩
  obtain ⟨Y, hY⟩ : ∃ Y, Y = t.cells (.slice tlA t.links.length tlc) (.slice taA t.ats.length tac) (.slice teA t.evs.length tec) := ⟨_, rfl⟩
  obtain ⟨W, hW⟩ : ∃ W, W = ((w.alloc (.cells X 33)).alloc (.cells Y 33)).alloc (.cells zcells 33) := ⟨_, rfl⟩
  obtain ⟨hk, ha, hb, hc⟩ := box3 w (.cells X 33) (.cells Y 33) (.cells zcells 33)
  rw [← hW] at hk ha hb hc
  have HW := Lib.hid (show ((w.alloc (.cells X 33)).alloc (.cells Y 33)).alloc (.cells #[.int .u64 0, .int .u64 0, .int .u64 0, .int .u64 0, .slice none 0 0, .string ⟨#[]⟩, .string ⟨#[]⟩, .int .i64 0, .int .i64 0, .int .i64 0, .int .i64 0, .slice none 0 0, .slice none 0 0] 33) = W from hW.symm)
  have HS := Lib.hid (And.intro (hs0.kept hk) (ht0.kept hk))
  have HS0 := Lib.hid (And.intro hs0 ht0)
  have HB := Lib.hid (And.intro hk (And.intro ha (And.intro hb hc)))
  have HXY := Lib.hid (And.intro hX hY)
  have hX2 := hX
  have hY2 := hY
  rw [hX] at ha
  rw [hY] at hb
  have a0 : W.cell? ⟨w.heap.size, 0, none⟩ = some (.int .u64 s.hi) := (blk_cell ha 0).trans rfl
  have b0 : W.cell? ⟨w.heap.size + 1, 0, none⟩ = some (.int .u64 t.hi) := (blk_cell hb 0).trans rfl
  have A0 := fun p : Later W => p.cell a0
  have B0 := fun p : Later W => p.cell b0
  have a1 : W.cell? ⟨w.heap.size, 1, none⟩ = some (.int .u64 s.lo) := (blk_cell ha 1).trans rfl
  have b1 : W.cell? ⟨w.heap.size + 1, 1, none⟩ = some (.int .u64 t.lo) := (blk_cell hb 1).trans rfl
  have A1 := fun p : Later W => p.cell a1
  have B1 := fun p : Later W => p.cell b1
  have a2 : W.cell? ⟨w.heap.size, 2, none⟩ = some (.int .u64 s.id) := (blk_cell ha 2).trans rfl
  have b2 : W.cell? ⟨w.heap.size + 1, 2, none⟩ = some (.int .u64 t.id) := (blk_cell hb 2).trans rfl
  have A2 := fun p : Later W => p.cell a2
  have B2 := fun p : Later W => p.cell b2
  have a3 : W.cell? ⟨w.heap.size, 3, none⟩ = some (.int .u64 s.par) := (blk_cell ha 3).trans rfl
  have b3 : W.cell? ⟨w.heap.size + 1, 3, none⟩ = some (.int .u64 t.par) := (blk_cell hb 3).trans rfl
  have A3 := fun p : Later W => p.cell a3
  have B3 := fun p : Later W => p.cell b3
  have a4 : W.cell? ⟨w.heap.size, 4, none⟩ = some (.slice slA s.links.length slc) := (blk_cell ha 4).trans rfl
  have b4 : W.cell? ⟨w.heap.size + 1, 4, none⟩ = some (.slice tlA t.links.length tlc) := (blk_cell hb 4).trans rfl
  have A4 := fun p : Later W => p.cell a4
  have B4 := fun p : Later W => p.cell b4
  have a5 : W.cell? ⟨w.heap.size, 5, none⟩ = some (.string s.svc) := (blk_cell ha 5).trans rfl
  have b5 : W.cell? ⟨w.heap.size + 1, 5, none⟩ = some (.string t.svc) := (blk_cell hb 5).trans rfl
  have A5 := fun p : Later W => p.cell a5
  have B5 := fun p : Later W => p.cell b5
  have a6 : W.cell? ⟨w.heap.size, 6, none⟩ = some (.string s.op) := (blk_cell ha 6).trans rfl
  have b6 : W.cell? ⟨w.heap.size + 1, 6, none⟩ = some (.string t.op) := (blk_cell hb 6).trans rfl
  have A6 := fun p : Later W => p.cell a6
  have B6 := fun p : Later W => p.cell b6
  have a7 : W.cell? ⟨w.heap.size, 7, none⟩ = some (.int .i64 s.kind) := (blk_cell ha 7).trans rfl
  have b7 : W.cell? ⟨w.heap.size + 1, 7, none⟩ = some (.int .i64 t.kind) := (blk_cell hb 7).trans rfl
  have A7 := fun p : Later W => p.cell a7
  have B7 := fun p : Later W => p.cell b7
  have a8 : W.cell? ⟨w.heap.size, 8, none⟩ = some (.int .i64 s.st) := (blk_cell ha 8).trans rfl
  have b8 : W.cell? ⟨w.heap.size + 1, 8, none⟩ = some (.int .i64 t.st) := (blk_cell hb 8).trans rfl
  have A8 := fun p : Later W => p.cell a8
  have B8 := fun p : Later W => p.cell b8
  have a9 : W.cell? ⟨w.heap.size, 9, none⟩ = some (.int .i64 s.start) := (blk_cell ha 9).trans rfl
  have b9 : W.cell? ⟨w.heap.size + 1, 9, none⟩ = some (.int .i64 t.start) := (blk_cell hb 9).trans rfl
  have A9 := fun p : Later W => p.cell a9
  have B9 := fun p : Later W => p.cell b9
  have a10 : W.cell? ⟨w.heap.size, 10, none⟩ = some (.int .i64 s.fin) := (blk_cell ha 10).trans rfl
  have b10 : W.cell? ⟨w.heap.size + 1, 10, none⟩ = some (.int .i64 t.fin) := (blk_cell hb 10).trans rfl
  have A10 := fun p : Later W => p.cell a10
  have B10 := fun p : Later W => p.cell b10
  have a11 : W.cell? ⟨w.heap.size, 11, none⟩ = some (.slice saA s.ats.length sac) := (blk_cell ha 11).trans rfl
  have b11 : W.cell? ⟨w.heap.size + 1, 11, none⟩ = some (.slice taA t.ats.length tac) := (blk_cell hb 11).trans rfl
  have A11 := fun p : Later W => p.cell a11
  have B11 := fun p : Later W => p.cell b11
  have a12 : W.cell? ⟨w.heap.size, 12, none⟩ = some (.slice seA s.evs.length sec) := (blk_cell ha 12).trans rfl
  have b12 : W.cell? ⟨w.heap.size + 1, 12, none⟩ = some (.slice teA t.evs.length tec) := (blk_cell hb 12).trans rfl
  have A12 := fun p : Later W => p.cell a12
  have B12 := fun p : Later W => p.cell b12
  have cOf := fun p : Later W => Calls.later_of (of_lit s slA saA seA slc sac sec p.w')
  have cOf2 := fun p : Later W => Calls.later_of (of_lit t tlA taA teA tlc tac tec p.w')
  have HC := Lib.hid (And.intro cOf cOf2)
  rw [← hX2, ← hY2]
  clear cOf cOf2 hX hY hX2 hY2 ha hb hc hk hW hs0 ht0 hU a0 b0 a1 b1 a2 b2 a3 b3 a4 b4 a5 b5 a6 b6 a7 b7 a8 b8 a9 b9 a10 b10 a11 b11 a12 b12
  have hcase : (((((s.hi : Int) = t.hi) = True ∧ ((s.lo : Int) = t.lo) = True ∧ ((s.id : Int) = t.id) = True) ∧ joinN s t = (if checkS s = 0 then checkS t else checkS s))) ∨ (joinN s t = 1 ∧ (((((s.hi : Int) = t.hi) = False ∨ (((s.hi : Int) = t.hi) = True ∧ ((s.lo : Int) = t.lo) = False)) ∨ (((s.hi : Int) = t.hi) = True ∧ ((s.lo : Int) = t.lo) = True ∧ ((s.id : Int) = t.id) = False)))) := by
    by_cases e1 : (s.hi : Int) = t.hi
    · by_cases e2 : (s.lo : Int) = t.lo
      · by_cases e3 : (s.id : Int) = t.id
        · exact .inl ⟨⟨eq_true e1, eq_true e2, eq_true e3⟩, if_pos (by omega)⟩
        · exact .inr ⟨if_neg (by omega), .inr ⟨eq_true e1, eq_true e2, eq_false e3⟩⟩
      · exact .inr ⟨if_neg (by omega), .inl (.inr ⟨eq_true e1, eq_false e2⟩)⟩
    · exact .inr ⟨if_neg (by omega), .inl (.inl (eq_false e1))⟩
  have fs := fun w : World => field_lit s slA saA seA slc sac sec w
  have ft := fun w : World => field_lit t tlA taA teA tlc tac tec w
  rcases hcase with ⟨⟨E1, E2, E3⟩, hj⟩ | ⟨hj, (E1 | ⟨E1, E2⟩) | ⟨E1, E2, E3⟩⟩
  case inr.inl.inl | inr.inl.inr | inr.inr =>
    have HJ := Lib.hid hj
    clear hj
    go_enter Tryd.func11, Tryd.ntmps11
    go_upto_region 1 with fail
    rw [HW.out]
    refine wp_region_later (by kernel_rfl) (by kernel_rfl) ?_
    repeat (go_big_quiet_step (first | with_reducible exact HC.out.1 _ | with_reducible exact HC.out.2 _))
    refine wpQuiet_nil ?_
    intro p
    have HRB := Lib.hid (blk_kept p.kept HB.out.2.2.2 (fun h => h))
    clear A0 B0 A1 B1 A2 B2 A3 B3 A4 B4 A5 B5 A6 B6 A7 B7 A8 B8 A9 B9 A10 B10 A11 B11 A12 B12
    go_wp2_with (refine wpList_store33 rfl _ _ rfl (w.heap.size + 2) zcells zcells rfl rfl HRB.out rfl rfl zcells_one ?_; intro w2 hb2 hk2; have HV := Lib.hid (And.intro hb2 hk2); clear hb2 hk2)
    refine ret33e rfl (w.heap.size + 2) zcells _ rfl rfl rfl HV.out.1 rfl ?_
    exact joinPost_no 1 HJ.out (by decide) rfl ((p.old HB.out.1).trans HV.out.2 (fun _ _ e => e) (fun i hi e => by omega))
  have HJ := Lib.hid hj
  clear hj
  go_enter Tryd.func11, Tryd.ntmps11
  go_upto_region 1 with fail
  rw [HW.out]
  refine wp_region_later (by kernel_rfl) (by kernel_rfl) ?_
  repeat (go_big_quiet_step (first | with_reducible exact HC.out.1 _ | with_reducible exact HC.out.2 _))
  refine wpQuiet_nil ?_
  intro p
  obtain ⟨V, hV⟩ : ∃ V, V = p.w' := ⟨_, rfl⟩
  have hkV : Kept (fun _ => False) W V := by rw [hV]; exact p.kept
  rw [← hV]
  have h1 := blk_kept hkV HB.out.2.1 (fun h => h)
  have h2 := blk_kept hkV HB.out.2.2.1 (fun h => h)
  have h3 := blk_kept hkV HB.out.2.2.2 (fun h => h)
  have HB2 := Lib.hid (And.intro (HB.out.1.trans hkV (U := fun _ => False) (fun _ _ e => e) (fun _ _ e => e)) (And.intro h1 (And.intro h2 h3)))
  have HS2 := Lib.hid (And.intro (HS.out.1.kept hkV) (HS.out.2.kept hkV))
  have hXs : X.size = 13 := by rw [HXY.out.1]; rfl
  have hYs : Y.size = 13 := by rw [HXY.out.2]; rfl
  have HXs := Lib.hid (And.intro hXs hYs)
  clear A0 B0 A1 B1 A2 B2 A3 B3 A4 B4 A5 B5 A6 B6 A7 B7 A8 B8 A9 B9 A10 B10 A11 B11 A12 B12 hV HB HS HC h1 h2 h3 hkV hXs hYs fs ft E1 E2 E3 HW
  go_upto_region 3 with fail
  have HLA := Lib.hid (show V.heap[w.heap.size]? = some (.cells #[.int .u64 s.hi, .int .u64 s.lo, .int .u64 s.id, .int .u64 s.par, .slice slA s.links.length slc, .string s.svc, .string s.op, .int .i64 s.kind, .int .i64 s.st, .int .i64 s.start, .int .i64 s.fin, .slice saA s.ats.length sac, .slice seA s.evs.length sec] 33 (0, 0)) by have h := HB2.out.2.1; rw [HXY.out.1] at h; exact h)
  have HLB := Lib.hid (show V.heap[w.heap.size + 1]? = some (.cells #[.int .u64 t.hi, .int .u64 t.lo, .int .u64 t.id, .int .u64 t.par, .slice tlA t.links.length tlc, .string t.svc, .string t.op, .int .i64 t.kind, .int .i64 t.st, .int .i64 t.start, .int .i64 t.fin, .slice taA t.ats.length tac, .slice teA t.evs.length tec] 33 (0, 0)) by have h := HB2.out.2.2.1; rw [HXY.out.2] at h; exact h)
  go_upto_region 4 with (first | (refine wpList_load33 rfl _ rfl w.heap.size #[.int .u64 s.hi, .int .u64 s.lo, .int .u64 s.id, .int .u64 s.par, .slice slA s.links.length slc, .string s.svc, .string s.op, .int .i64 s.kind, .int .i64 s.st, .int .i64 s.start, .int .i64 s.fin, .slice saA s.ats.length sac, .slice seA s.evs.length sec] rfl HLA.out rfl ?_) | (refine wpList_load33 rfl _ rfl (w.heap.size + 1) #[.int .u64 t.hi, .int .u64 t.lo, .int .u64 t.id, .int .u64 t.par, .slice tlA t.links.length tlc, .string t.svc, .string t.op, .int .i64 t.kind, .int .i64 t.st, .int .i64 t.start, .int .i64 t.fin, .slice taA t.ats.length tac, .slice teA t.evs.length tec] rfl HLB.out rfl ?_))
  obtain ⟨vb, hvb⟩ : ∃ v, v = V.heap.size := ⟨_, rfl⟩
  obtain ⟨V2, hV2⟩ : ∃ V2, V2 = V.alloc (.cells #[.int .u64 s.hi, .int .u64 s.lo, .int .u64 s.id, .int .u64 s.par, .slice slA s.links.length slc, .string s.svc, .string s.op, .int .i64 s.kind, .int .i64 s.st, .int .i64 s.start, .int .i64 s.fin, .slice saA s.ats.length sac, .slice seA s.evs.length sec, .int .u64 t.hi, .int .u64 t.lo, .int .u64 t.id, .int .u64 t.par, .slice tlA t.links.length tlc, .string t.svc, .string t.op, .int .i64 t.kind, .int .i64 t.st, .int .i64 t.start, .int .i64 t.fin, .slice taA t.ats.length tac, .slice teA t.evs.length tec] 33) := ⟨_, rfl⟩
  rw [← hV2, ← hvb]
  have hJ : JoinAt X Y vb w V2 := by
    have hk : Kept (fun _ => False) V V2 := by rw [hV2]; exact .alloc _ _ _
    refine ⟨HB2.out.1.trans hk (fun _ _ e => e) (fun _ _ e => e), blk_kept hk HB2.out.2.1 (fun h => h), blk_kept hk HB2.out.2.2.1 (fun h => h), blk_kept hk HB2.out.2.2.2 (fun h => h), ?_⟩
    have e : X ++ Y = #[.int .u64 s.hi, .int .u64 s.lo, .int .u64 s.id, .int .u64 s.par, .slice slA s.links.length slc, .string s.svc, .string s.op, .int .i64 s.kind, .int .i64 s.st, .int .i64 s.start, .int .i64 s.fin, .slice saA s.ats.length sac, .slice seA s.evs.length sec, .int .u64 t.hi, .int .u64 t.lo, .int .u64 t.id, .int .u64 t.par, .slice tlA t.links.length tlc, .string t.svc, .string t.op, .int .i64 t.kind, .int .i64 t.st, .int .i64 t.start, .int .i64 t.fin, .slice taA t.ats.length tac, .slice teA t.evs.length tec] := by rw [HXY.out.1, HXY.out.2]; simp [Spn.cells]
    rw [e, hV2, hvb]
    exact heap_alloc_new V _
  have hCs : ∀ w2, Kept (fun _ => False) w w2 → Calls Tryd.prog 10 #[.agg X] w2 (IntPost (checkS s) w2) := fun w2 hk => by rw [HXY.out.1]; exact check_any s _ _ _ w2 (HS0.out.1.kept hk) hzs (Utf8Tabs.kept HU.out hk (fun h => h) (fun h => h))
  have hCt : ∀ w2, Kept (fun _ => False) w w2 → Calls Tryd.prog 10 #[.agg Y] w2 (IntPost (checkS t) w2) := fun w2 hk => by rw [HXY.out.2]; exact check_any t _ _ _ w2 (HS0.out.2.kept hk) hzt (Utf8Tabs.kept HU.out hk (fun h => h) (fun h => h))
  have hCc : ∀ w2, Kept (fun _ => False) w w2 → Calls Tryd.prog 13 #[.agg X, .agg Y] w2 (IntPost (spnC s t) w2) := fun w2 hk => by rw [HXY.out.1, HXY.out.2]; exact compare_any s t _ _ _ _ _ _ w2 (HS0.out.1.kept hk) (HS0.out.2.kept hk)
  have hoX : X.all (·.oneCell') = true := by rw [HXY.out.1]; simp [Spn.cells, Value.oneCell']
  have hoY : Y.all (·.oneCell') = true := by rw [HXY.out.2]; simp [Spn.cells, Value.oneCell']
  obtain ⟨cs, hcs⟩ : ∃ c, c = checkS s := ⟨_, rfl⟩
  obtain ⟨ct, hct⟩ : ∃ c, c = checkS t := ⟨_, rfl⟩
  rw [← hcs] at hCs
  rw [← hct] at hCt
  have HK := Lib.hid (And.intro hCs (And.intro hCt hCc))
  have HOX := Lib.hid (And.intro hoX hoY)
  have HCT := Lib.hid (And.intro hcs hct)
  have HJA := Lib.hid hJ
  clear hJ hCs hCt hCc hoX hoY hcs hct hV2 hvb HLA HLB HB2 HS2
  go_wp2_with fail
  go_loopw [21] (fun i wr => JoinAt X Y vb w wr ∧ (i = .int .i64 0 ∨ (i = .int .i64 1 ∧ cs = 0) ∨ (i = .int .i64 2 ∧ cs = 0 ∧ ct = 0))) (fun i _ => 2 - (intOf i).toNat)
  case atStart => exact ⟨HJA.out, .inl rfl⟩
  obtain ⟨hJ, hi⟩ := hrel
  have HJ2 := Lib.hid hJ
  clear HJA hJ
  rcases hi with rfl | ⟨rfl, hc0⟩ | ⟨rfl, hc0, hd0⟩
  · skip
    skip
    have HRG := Lib.hid (range_two HJ2.out.v HXs.out.1).1
    have HNB := Lib.hid (heap_alloc_new wr (.cells zcells 33))
    go_upto_region 6 with (first | (refine wpList_load33_mid rfl _ rfl vb 0 X rfl HRG.out HXs.out.1 ?_) | (refine wpList_store33 rfl _ _ rfl wr.heap.size zcells X rfl rfl HNB.out HXs.out.1 rfl HOX.out.1 ?_; intro w2 hb2 hk2; have HV := Lib.hid (And.intro hb2 hk2); clear hb2 hk2))
    have hk2 : Kept (fun _ => False) wr w2 := (Kept.alloc (fun _ => False) wr (.cells zcells 33)).trans HV.out.2 (fun _ _ e => e) (fun i hi e => by omega)
    have hJ2 := HJ2.out.later hk2
    have HCH := Lib.hid (HK.out.1 w2 hJ2.kept)
    have HJ3 := Lib.hid hJ2
    clear hk2 hJ2 HJ2
    go_upto_region 7 with (first | (refine wpList_load33 rfl _ rfl wr.heap.size X rfl HV.out.1 HXs.out.1 ?_) | (go_at_call 10; (with_reducible refine HCH.out.mono ?_); rintro e w3 ⟨rfl, hk3⟩; have HJ4 := Lib.hid (HJ3.out.later hk3); clear hk3))
    clear HV HRG HNB HCH HJ3
    by_cases hz : cs = 0
    · have HZ := Lib.hid hz
      have e1 : (cs == 0) = true := by rw [hz]; rfl
      clear hz
      go_wp2_with fail
      have hz := HZ.out
      exact ⟨⟨HJ4.out, .inr (.inl ⟨rfl, hz⟩)⟩, by simp [intOf]⟩
    · have HZ := Lib.hid hz
      have e1 : (cs == 0) = false := by simpa using hz
      have HRB := Lib.hid HJ4.out.r
      clear hz
      go_wp2_with (refine wpList_store33 rfl _ _ rfl (w.heap.size + 2) zcells zcells rfl rfl HRB.out rfl rfl zcells_one ?_; intro w4 hb4 hk4; have HV := Lib.hid (And.intro hb4 hk4); clear hb4 hk4)
      refine ret33e rfl (w.heap.size + 2) zcells _ rfl rfl rfl HV.out.1 rfl ?_
      have hz := HZ.out
      exact joinPost_no cs (by rw [HJ.out, ← HCT.out.1, if_neg hz]) hz rfl (HJ4.out.kept.trans HV.out.2 (fun _ _ e => e) (fun i hi e => by omega))
  · have HC0 := Lib.hid hc0
    clear hc0
    have HRG := Lib.hid (range_two HJ2.out.v HXs.out.1).2
    have HNB := Lib.hid (heap_alloc_new wr (.cells zcells 33))
    go_upto_region 6 with (first | (refine wpList_load33_mid rfl _ rfl vb 13 Y rfl HRG.out HXs.out.2 ?_) | (refine wpList_store33 rfl _ _ rfl wr.heap.size zcells Y rfl rfl HNB.out HXs.out.2 rfl HOX.out.2 ?_; intro w2 hb2 hk2; have HV := Lib.hid (And.intro hb2 hk2); clear hb2 hk2))
    have hk2 : Kept (fun _ => False) wr w2 := (Kept.alloc (fun _ => False) wr (.cells zcells 33)).trans HV.out.2 (fun _ _ e => e) (fun i hi e => by omega)
    have hJ2 := HJ2.out.later hk2
    have HCH := Lib.hid (HK.out.2.1 w2 hJ2.kept)
    have HJ3 := Lib.hid hJ2
    clear hk2 hJ2 HJ2
    go_upto_region 7 with (first | (refine wpList_load33 rfl _ rfl wr.heap.size Y rfl HV.out.1 HXs.out.2 ?_) | (go_at_call 10; (with_reducible refine HCH.out.mono ?_); rintro e w3 ⟨rfl, hk3⟩; have HJ4 := Lib.hid (HJ3.out.later hk3); clear hk3))
    clear HV HRG HNB HCH HJ3
    by_cases hz : ct = 0
    · have HZ := Lib.hid hz
      have e1 : (ct == 0) = true := by rw [hz]; rfl
      clear hz
      go_wp2_with fail
      have hz := HZ.out
      exact ⟨⟨HJ4.out, .inr (.inr ⟨rfl, HC0.out, hz⟩)⟩, by simp [intOf]⟩
    · have HZ := Lib.hid hz
      have e1 : (ct == 0) = false := by simpa using hz
      have HRB := Lib.hid HJ4.out.r
      clear hz
      go_wp2_with (refine wpList_store33 rfl _ _ rfl (w.heap.size + 2) zcells zcells rfl rfl HRB.out rfl rfl zcells_one ?_; intro w4 hb4 hk4; have HV := Lib.hid (And.intro hb4 hk4); clear hb4 hk4)
      refine ret33e rfl (w.heap.size + 2) zcells _ rfl rfl rfl HV.out.1 rfl ?_
      have hz := HZ.out
      exact joinPost_no ct (by rw [HJ.out, ← HCT.out.1, if_pos HC0.out, ← HCT.out.2]) hz rfl (HJ4.out.kept.trans HV.out.2 (fun _ _ e => e) (fun i hi e => by omega))
  · have HC0 := Lib.hid (And.intro hc0 hd0)
    clear hc0 hd0
    obtain ⟨V3, rfl⟩ : ∃ V3 : World, V3 = wr := ⟨_, rfl⟩
    have HCC := Lib.hid (HK.out.2.2 V3 HJ2.out.kept)
    obtain ⟨cc, hcc⟩ : ∃ c, c = spnC s t := ⟨_, rfl⟩
    rw [← hcc] at HCC
    have HCV := Lib.hid hcc
    have HA1 := Lib.hid HJ2.out.a
    have HA2 := Lib.hid HJ2.out.b
    have f0 : joinN s t = 0 := by rw [HJ.out, ← HCT.out.1, if_pos HC0.out.1, ← HCT.out.2]; exact HC0.out.2
    have hfs := fine_of (s := s) (by rw [← HCT.out.1]; exact HC0.out.1)
    have hft := fine_of (s := t) (by rw [← HCT.out.2]; exact HC0.out.2)
    have hls : s.links.length ≤ 1000 ∧ s.ats.length ≤ 1000 ∧ s.evs.length ≤ 1000 := ⟨by have := hfs.links; omega, by have := hfs.ats.1; omega, by have := hfs.evs.1; omega⟩
    have hlt : t.links.length ≤ 1000 ∧ t.ats.length ≤ 1000 ∧ t.evs.length ≤ 1000 := ⟨by have := hft.links; omega, by have := hft.ats.1; omega, by have := hft.evs.1; omega⟩
    have HF0 := Lib.hid f0
    have HLL := Lib.hid (And.intro hls hlt)
    clear hcc f0 hfs hft hls hlt
    by_cases hcc : cc < 0
    · have HT := Lib.hid (show joinS s t = t from if_pos (by rw [← HCV.out]; exact hcc))
      have e1 : (cc < 0) = True := eq_true hcc
      have HC9 := Lib.hid hcc
      clear hcc
      go_upto_region 11 with (first | (refine wpList_load33 rfl _ rfl w.heap.size X rfl HA1.out HXs.out.1 ?_) | (refine wpList_load33 rfl _ rfl (w.heap.size + 1) Y rfl HA2.out HXs.out.2 ?_) | (go_at_call 13; (with_reducible refine HCC.out.mono ?_); rintro e w3 ⟨rfl, hk3⟩; have HJ3 := Lib.hid (HJ2.out.later hk3); clear hk3))
      have HA3 := Lib.hid HJ3.out.a
      have HA4 := Lib.hid HJ3.out.b
      go_upto_region 12 with (first | (refine wpList_load33 rfl _ rfl (w.heap.size + 1) Y rfl HA4.out HXs.out.2 ?_) | (refine wpList_store33 rfl _ _ rfl w.heap.size X Y rfl rfl HA3.out HXs.out.2 HXs.out.1 HOX.out.2 ?_; intro w4 hb4 hk4; have HV4 := Lib.hid (And.intro hb4 hk4); clear hb4 hk4))
      have hk4 : Kept (fun _ => False) w w4 := HJ3.out.kept.trans HV4.out.2 (fun _ _ e => e) (fun i hi e => by omega)
      have hr4 := blk_kept HV4.out.2 HJ3.out.r (by omega)
      have ha4 := HV4.out.1
      have hcl := clone_span t _ _ _ w4 (HS0.out.2.kept hk4) HLL.out.2.1 HLL.out.2.2.1 HLL.out.2.2.2
      rw [← HXY.out.2] at hcl
      have HCL := Lib.hid hcl
      have HR4 := Lib.hid hr4
      have HA4' := Lib.hid ha4
      have HK4 := Lib.hid hk4
      clear hcl hr4 ha4 hk4
      go_wp2_with (first | (refine wpList_load33 rfl _ rfl w.heap.size Y rfl HA4'.out HXs.out.2 ?_) | (go_at_call 23; (with_reducible refine HCL.out.mono ?_); rintro e w5 ⟨⟨lv', av', ev', rfl, hS5, hn1, hn2, hn3⟩, hk5⟩; have HR5 := Lib.hid (blk_kept hk5 HR4.out (fun h => h)); obtain ⟨⟨A1, c1, rfl, hq1⟩, ⟨A2, c2, rfl, hq2⟩, ⟨A3, c3, rfl, hq3⟩, hm1, hm2, hm3⟩ := hS5; have hQ : SReads w5 t (.slice A1 t.links.length c1) (.slice A2 t.ats.length c2) (.slice A3 t.evs.length c3) := ⟨⟨A1, c1, rfl, hq1⟩, ⟨A2, c2, rfl, hq2⟩, ⟨A3, c3, rfl, hq3⟩, hm1, hm2, hm3⟩; have hone : (t.cells (.slice A1 t.links.length c1) (.slice A2 t.ats.length c2) (.slice A3 t.evs.length c3)).all (·.oneCell') = true := (by simp [Spn.cells, Value.oneCell']); have HQ5 := Lib.hid (And.intro hQ (And.intro hn1 (And.intro hn2 (And.intro hn3 hk5)))); clear hq1 hq2 hq3 hQ hn1 hn2 hn3 hk5 hm1 hm2 hm3) | (refine wpList_store33 rfl _ _ rfl (w.heap.size + 2) zcells (t.cells (.slice A1 t.links.length c1) (.slice A2 t.ats.length c2) (.slice A3 t.evs.length c3)) rfl rfl HR5.out rfl rfl hone ?_; intro w6 hb6 hk6; have HV6 := Lib.hid (And.intro hb6 hk6); clear hb6 hk6))
      refine ret33e rfl (w.heap.size + 2) (t.cells (.slice A1 t.links.length c1) (.slice A2 t.ats.length c2) (.slice A3 t.evs.length c3)) _ rfl rfl rfl HV6.out.1 rfl ?_
      have hw4 : w.heap.size + 2 < w4.heap.size := blk_lt HR4.out
      obtain ⟨hQ, hn1, hn2, hn3, hk5⟩ := HQ5.out
      refine ⟨?_, (HK4.out.trans hk5 (fun _ _ e => e) (fun _ _ e => e)).trans HV6.out.2 (fun _ _ e => e) (fun i hi e => by omega)⟩
      rw [if_pos HF0.out, HT.out]
      exact ⟨_, _, _, rfl, hQ.links.keptS HV6.out.2 (fun A' hA => by subst hA; have := hn1 _ _ _ rfl; omega), hQ.ats.keptS HV6.out.2 (fun A' hA => by subst hA; have := hn2 _ _ _ rfl; omega), hQ.evs.keptS HV6.out.2 (fun A' hA => by subst hA; have := hn3 _ _ _ rfl; omega), hQ.l0, hQ.a0, hQ.e0⟩
    · have HT := Lib.hid (show joinS s t = s from if_neg (by rw [← HCV.out]; exact hcc))
      have e1 : 0 ≤ cc := by omega
      have HC9 := Lib.hid hcc
      clear hcc
      go_upto_region 12 with (first | (refine wpList_load33 rfl _ rfl w.heap.size X rfl HA1.out HXs.out.1 ?_) | (refine wpList_load33 rfl _ rfl (w.heap.size + 1) Y rfl HA2.out HXs.out.2 ?_) | (go_at_call 13; (with_reducible refine HCC.out.mono ?_); rintro e w3 ⟨rfl, hk3⟩; have HJ3 := Lib.hid (HJ2.out.later hk3); clear hk3))
      obtain ⟨w4, rfl⟩ : ∃ w4 : World, w4 = w3 := ⟨_, rfl⟩
      have hk4 := HJ3.out.kept
      have hr4 := HJ3.out.r
      have ha4 := HJ3.out.a
      have hcl := clone_span s _ _ _ w4 (HS0.out.1.kept hk4) HLL.out.1.1 HLL.out.1.2.1 HLL.out.1.2.2
      rw [← HXY.out.1] at hcl
      have HCL := Lib.hid hcl
      have HR4 := Lib.hid hr4
      have HA4' := Lib.hid ha4
      have HK4 := Lib.hid hk4
      clear hcl hr4 ha4 hk4
      go_wp2_with (first | (refine wpList_load33 rfl _ rfl w.heap.size X rfl HA4'.out HXs.out.1 ?_) | (go_at_call 23; (with_reducible refine HCL.out.mono ?_); rintro e w5 ⟨⟨lv', av', ev', rfl, hS5, hn1, hn2, hn3⟩, hk5⟩; have HR5 := Lib.hid (blk_kept hk5 HR4.out (fun h => h)); obtain ⟨⟨A1, c1, rfl, hq1⟩, ⟨A2, c2, rfl, hq2⟩, ⟨A3, c3, rfl, hq3⟩, hm1, hm2, hm3⟩ := hS5; have hQ : SReads w5 s (.slice A1 s.links.length c1) (.slice A2 s.ats.length c2) (.slice A3 s.evs.length c3) := ⟨⟨A1, c1, rfl, hq1⟩, ⟨A2, c2, rfl, hq2⟩, ⟨A3, c3, rfl, hq3⟩, hm1, hm2, hm3⟩; have hone : (s.cells (.slice A1 s.links.length c1) (.slice A2 s.ats.length c2) (.slice A3 s.evs.length c3)).all (·.oneCell') = true := (by simp [Spn.cells, Value.oneCell']); have HQ5 := Lib.hid (And.intro hQ (And.intro hn1 (And.intro hn2 (And.intro hn3 hk5)))); clear hq1 hq2 hq3 hQ hn1 hn2 hn3 hk5 hm1 hm2 hm3) | (refine wpList_store33 rfl _ _ rfl (w.heap.size + 2) zcells (s.cells (.slice A1 s.links.length c1) (.slice A2 s.ats.length c2) (.slice A3 s.evs.length c3)) rfl rfl HR5.out rfl rfl hone ?_; intro w6 hb6 hk6; have HV6 := Lib.hid (And.intro hb6 hk6); clear hb6 hk6))
      refine ret33e rfl (w.heap.size + 2) (s.cells (.slice A1 s.links.length c1) (.slice A2 s.ats.length c2) (.slice A3 s.evs.length c3)) _ rfl rfl rfl HV6.out.1 rfl ?_
      have hw4 : w.heap.size + 2 < w4.heap.size := blk_lt HR4.out
      obtain ⟨hQ, hn1, hn2, hn3, hk5⟩ := HQ5.out
      refine ⟨?_, (HK4.out.trans hk5 (fun _ _ e => e) (fun _ _ e => e)).trans HV6.out.2 (fun _ _ e => e) (fun i hi e => by omega)⟩
      rw [if_pos HF0.out, HT.out]
      exact ⟨_, _, _, rfl, hQ.links.keptS HV6.out.2 (fun A' hA => by subst hA; have := hn1 _ _ _ rfl; omega), hQ.ats.keptS HV6.out.2 (fun A' hA => by subst hA; have := hn2 _ _ _ rfl; omega), hQ.evs.keptS HV6.out.2 (fun A' hA => by subst hA; have := hn3 _ _ _ rfl; omega), hQ.l0, hQ.a0, hQ.e0⟩

end Go.Proofs.YtniigjfimggobaaDoor
