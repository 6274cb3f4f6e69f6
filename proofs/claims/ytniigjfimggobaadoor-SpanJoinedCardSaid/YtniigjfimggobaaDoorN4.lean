/- SpanJoined: which one counts hangs on neither the order nor the pairs (the walk). -/
import Derived.Test.YtniigjfimggobaaDoorN3
namespace Go.Proofs.YtniigjfimggobaaDoor
open Go.RowKit
set_option linter.unusedVariables false
set_option linter.unusedSimpArgs false

/-- A span's cells, whose lists lie in memory. -/
def SpF (w : World) (X : Array Value) (s : Spn) : Prop := ∃ A1 c1 A2 c2 A3 c3, X = s.cells (.slice A1 s.links.length c1) (.slice A2 s.ats.length c2) (.slice A3 s.evs.length c3) ∧ SReads w s (.slice A1 s.links.length c1) (.slice A2 s.ats.length c2) (.slice A3 s.evs.length c3)
theorem SpF.kept {w w' : World} {X : Array Value} {s : Spn} (h : SpF w X s) (hk : Kept (fun _ => False) w w') : SpF w' X s := by
  obtain ⟨A1, c1, A2, c2, A3, c3, rfl, hr⟩ := h
  exact ⟨A1, c1, A2, c2, A3, c3, rfl, hr.kept hk⟩
theorem SpF.size {w : World} {X : Array Value} {s : Spn} (h : SpF w X s) : X.size = 13 := by
  obtain ⟨A1, c1, A2, c2, A3, c3, rfl, hr⟩ := h
  rfl
theorem SpF.one {w : World} {X : Array Value} {s : Spn} (h : SpF w X s) : X.all (·.oneCell') = true := by
  obtain ⟨A1, c1, A2, c2, A3, c3, rfl, hr⟩ := h
  exact cells_one _ _ _ _ _ _ _ _ _ _
theorem SpF.of {w : World} {s : Spn} {lv av ev : Value} (h : SReads w s lv av ev) : SpF w (s.cells lv av ev) s := by
  obtain ⟨A1, c1, A2, c2, A3, c3, rfl, rfl, rfl⟩ := slices_of h
  exact ⟨A1, c1, A2, c2, A3, c3, rfl, h⟩
def SJ (s t : Spn) (w : World) (e : Ending) (w' : World) : Prop := ∃ Z, e = .returned (.tuple #[.agg Z, .int .i64 (joinN s t)]) ∧ Z.size = 13 ∧ Z.all (·.oneCell') = true ∧ (joinN s t = 0 → SpF w' Z (joinS s t)) ∧ Kept (fun _ => False) w w'
theorem SpF.join {w : World} {X Y : Array Value} {s t : Spn} (hX : SpF w X s) (hY : SpF w Y t) (hzs : Sized s) (hzt : Sized t) (hU : Lib.Utf8Tabs 0 1 w) : Calls Tryd.prog 11 #[.agg X, .agg Y] w (SJ s t w) := by
  obtain ⟨A1, c1, A2, c2, A3, c3, rfl, hr⟩ := hX
  obtain ⟨B1, d1, B2, d2, B3, d3, rfl, hq⟩ := hY
  refine (join_any s t _ _ _ _ _ _ w hr hq hzs hzt hU).mono fun e w' ⟨hp, hk⟩ => ?_
  by_cases h0 : joinN s t = 0
  · rw [if_pos h0] at hp
    obtain ⟨lv, av, ev, rfl, hs⟩ := hp
    have hf := SpF.of hs
    exact ⟨_, by rw [h0], hf.size, hf.one, fun _ => hf, hk⟩
  · rw [if_neg h0] at hp
    exact ⟨zcells, hp, rfl, zcells_one, fun h => absurd h h0, hk⟩
def SJ0 (r : Spn) (w : World) (e : Ending) (w' : World) : Prop := ∃ Z, e = .returned (.tuple #[.agg Z, .int .i64 0]) ∧ SpF w' Z r ∧ Kept (fun _ => False) w w'
theorem SpF.join0 {w : World} {X Y : Array Value} {s t : Spn} (hX : SpF w X s) (hY : SpF w Y t) (hzs : Sized s) (hzt : Sized t) (hU : Lib.Utf8Tabs 0 1 w) (h0 : joinN s t = 0) : Calls Tryd.prog 11 #[.agg X, .agg Y] w (SJ0 (joinS s t) w) :=
  (hX.join hY hzs hzt hU).mono fun e w' ⟨Z, he, _, _, hf, hk⟩ => ⟨Z, by rw [he, h0], hf h0, hk⟩
theorem SpF.same {w : World} {X Y : Array Value} {s t : Spn} (hX : SpF w X s) (hY : SpF w Y t) : Calls Tryd.prog 12 #[.agg X, .agg Y] w (BoolPost (sameS s t) w) := by
  obtain ⟨A1, c1, A2, c2, A3, c3, rfl, hr⟩ := hX
  obtain ⟨B1, d1, B2, d2, B3, d3, rfl, hq⟩ := hY
  exact same_any s t _ _ _ _ _ _ w hr hq
theorem SpF.compare {w : World} {X Y : Array Value} {s t : Spn} (hX : SpF w X s) (hY : SpF w Y t) : Calls Tryd.prog 13 #[.agg X, .agg Y] w (IntPost (spnC s t) w) := by
  obtain ⟨A1, c1, A2, c2, A3, c3, rfl, hr⟩ := hX
  obtain ⟨B1, d1, B2, d2, B3, d3, rfl, hq⟩ := hY
  exact compare_any s t _ _ _ _ _ _ w hr hq
theorem SpF.check {w : World} {X : Array Value} {s : Spn} (hX : SpF w X s) (hz : Sized s) (hU : Lib.Utf8Tabs 0 1 w) : Calls Tryd.prog 10 #[.agg X] w (IntPost (checkS s) w) := by
  obtain ⟨A1, c1, A2, c2, A3, c3, rfl, hr⟩ := hX
  exact check_any s _ _ _ w hr hz hU
/-- One span by another one's name. -/
def byName (t s : Spn) : Spn := { t with hi := s.hi, lo := s.lo, id := s.id }
def SN (w0 : World) (r : Spn) (w : World) (e : Ending) (w' : World) : Prop := ∃ Z, e = .returned (.agg Z) ∧ SpF w0 Z r ∧ Kept (fun _ => False) w w'
theorem SpF.named {w0 : World} (w : World) {X Y : Array Value} {s t : Spn} (hY : SpF w0 Y t) (hX : SpF w0 X s) : Calls Tryd.prog 9 #[.agg Y, .agg X] w (SN w0 (byName t s) w) := by
  obtain ⟨A1, c1, A2, c2, A3, c3, rfl, hr⟩ := hY
  obtain ⟨B1, d1, B2, d2, B3, d3, rfl, hq⟩ := hX
  exact (named_any t s A1 A2 A3 B1 B2 B3 t.links.length c1 t.ats.length c2 t.evs.length c3 s.links.length d1 s.ats.length d2 s.evs.length d3 w).mono fun e w' ⟨he, hk⟩ => ⟨_, he, ⟨A1, c1, A2, c2, A3, c3, rfl, ⟨hr.links, hr.ats, hr.evs, hr.l0, hr.a0, hr.e0⟩⟩, hk⟩
/-- A block that holds a span. -/
def SpAt (w : World) (g : Nat) (X : Array Value) (s : Spn) : Prop := w.heap[g]? = some (.cells X 33 (0, 0)) ∧ SpF w X s
theorem SpAt.kept {w w' : World} {g : Nat} {X : Array Value} {s : Spn} (h : SpAt w g X s) (hk : Kept (fun _ => False) w w') : SpAt w' g X s := ⟨blk_kept hk h.1 (fun h => h), h.2.kept hk⟩
theorem array13 {X : Array Value} (h : X.size = 13) : ∃ x0 x1 x2 x3 x4 x5 x6 x7 x8 x9 x10 x11 x12, X = #[x0, x1, x2, x3, x4, x5, x6, x7, x8, x9, x10, x11, x12] := by
  match X, h with
  | ⟨[a, b, c, d, e, f, g, h, i, j, k, l, o]⟩, _ => exact ⟨a, b, c, d, e, f, g, h, i, j, k, l, o, rfl⟩
theorem SpAt.cells {w : World} {g : Nat} {X : Array Value} {s : Spn} (h : SpAt w g X s) (x0 x1 x2 x3 x4 x5 x6 x7 x8 x9 x10 x11 x12 : Value) (hX : X = #[x0, x1, x2, x3, x4, x5, x6, x7, x8, x9, x10, x11, x12]) :
    w.cell? ⟨g, 0, none⟩ = some x0 ∧ w.cell? ⟨g, 1, none⟩ = some x1 ∧ w.cell? ⟨g, 2, none⟩ = some x2 ∧ w.cell? ⟨g, 3, none⟩ = some x3 ∧ w.cell? ⟨g, 4, none⟩ = some x4 ∧ w.cell? ⟨g, 5, none⟩ = some x5 ∧ w.cell? ⟨g, 6, none⟩ = some x6 ∧ w.cell? ⟨g, 7, none⟩ = some x7 ∧ w.cell? ⟨g, 8, none⟩ = some x8 ∧ w.cell? ⟨g, 9, none⟩ = some x9 ∧ w.cell? ⟨g, 10, none⟩ = some x10 ∧ w.cell? ⟨g, 11, none⟩ = some x11 ∧ w.cell? ⟨g, 12, none⟩ = some x12 := by
  subst hX
  have hb := h.1
  exact ⟨(blk_cell hb 0).trans rfl, (blk_cell hb 1).trans rfl, (blk_cell hb 2).trans rfl, (blk_cell hb 3).trans rfl, (blk_cell hb 4).trans rfl, (blk_cell hb 5).trans rfl, (blk_cell hb 6).trans rfl, (blk_cell hb 7).trans rfl, (blk_cell hb 8).trans rfl, (blk_cell hb 9).trans rfl, (blk_cell hb 10).trans rfl, (blk_cell hb 11).trans rfl, (blk_cell hb 12).trans rfl⟩
/-- A new block that a span was stored in. -/
theorem SpAt.stored {w w' : World} {X : Array Value} {s : Spn} {o : Obj} (hf : SpF w X s) (hb : w'.heap[w.heap.size]? = some (.cells X 33 (0, 0))) (hk : Kept (fun k => k = w.heap.size) (w.alloc o) w') : Kept (fun _ => False) w w' ∧ SpAt w' w.heap.size X s := by
  have hk2 : Kept (fun _ => False) w w' := (Kept.alloc (fun _ => False) w o).trans hk (fun _ _ e => e) (fun i hi e => by omega)
  exact ⟨hk2, hb, hf.kept hk2⟩
theorem checkS_join {s t : Spn} (hs : checkS s = 0) (ht : checkS t = 0) : checkS (joinS s t) = 0 := by unfold joinS; split <;> assumption
theorem sized_join {s t : Spn} (hs : Sized s) (ht : Sized t) : Sized (joinS s t) := by unfold joinS; split <;> assumption
/-- Spans of one name. -/
def Alike2 (s t : Spn) : Prop := s.hi = t.hi ∧ s.lo = t.lo ∧ s.id = t.id
theorem Alike2.joinN {s t : Spn} (h : Alike2 s t) : joinN s t = if checkS s = 0 then checkS t else checkS s := if_pos h
theorem Alike2.joinN0 {s t : Spn} (h : Alike2 s t) (hs : checkS s = 0) (ht : checkS t = 0) : YtniigjfimggobaaDoor.joinN s t = 0 := by rw [h.joinN, if_pos hs, ht]
theorem Alike2.join {s t u : Spn} (h : Alike2 s t) (k : Alike2 s u) : Alike2 (joinS s t) u := by
  unfold joinS; split
  · exact ⟨h.1.symm.trans k.1, h.2.1.symm.trans k.2.1, h.2.2.symm.trans k.2.2⟩
  · exact k
theorem Alike2.symm {s t : Spn} (h : Alike2 s t) : Alike2 t s := ⟨h.1.symm, h.2.1.symm, h.2.2.symm⟩
theorem Alike2.trans {s t u : Spn} (h : Alike2 s t) (k : Alike2 t u) : Alike2 s u := ⟨h.1.trans k.1, h.2.1.trans k.2.1, h.2.2.trans k.2.2⟩
theorem join_one (s t : Spn) : joinS s t = s ∨ joinS s t = t := by unfold joinS; split <;> simp
set_option maxHeartbeats 32000000 in
set_option maxRecDepth 100000 in
theorem spanJoined_any (s t0 u0 : Spn) (lv av ev lu au eu lx ax ex : Value) (w : World) (hs : SReads w s lv av ev) (ht : SReads w t0 lu au eu) (hu : SReads w u0 lx ax ex) (zs : Sized s) (zt : Sized t0) (zu : Sized u0) (hU : Lib.Utf8Tabs 0 1 w) :
    Calls Tryd.prog 4 #[.agg (s.cells lv av ev), .agg (t0.cells lu au eu), .agg (u0.cells lx ax ex)] w (TruePost w) := by
  have fs := SpF.of hs
  have ft := SpF.of ht
  have fu := SpF.of hu
  obtain ⟨X, hX⟩ : ∃ X, X = s.cells lv av ev := ⟨_, rfl⟩
  obtain ⟨Y0, hY⟩ : ∃ Y, Y = t0.cells lu au eu := ⟨_, rfl⟩
  obtain ⟨Z0, hZ⟩ : ∃ Z, Z = u0.cells lx ax ex := ⟨_, rfl⟩
  rw [← hX] at fs
  rw [← hY] at ft
  rw [← hZ] at fu
  obtain ⟨W, hW⟩ : ∃ W, W = ((w.alloc (.cells X 33)).alloc (.cells Y0 33)).alloc (.cells Z0 33) := ⟨_, rfl⟩
  obtain ⟨hk, ha, hb, hc⟩ := box3 w (.cells X 33) (.cells Y0 33) (.cells Z0 33)
  rw [← hW] at hk ha hb hc
  have HW := Lib.hid hW.symm
  have HF := Lib.hid (And.intro fs (And.intro ft fu))
  have HB := Lib.hid (And.intro hk (And.intro ha (And.intro hb hc)))
  have hXs := fs.size
  have hYs := ft.size
  have hZs := fu.size
  have HSZ := Lib.hid (And.intro hXs (And.intro hYs hZs))
  rw [← hX, ← hY, ← hZ]
  have HAW := Lib.hid (awake_any W (Utf8Tabs.kept hU hk (fun h => h) (fun h => h)))
  have HU := Lib.hid hU
  obtain ⟨t, htt⟩ : ∃ t, t = byName t0 s := ⟨_, rfl⟩
  obtain ⟨u, huu⟩ : ∃ u, u = byName u0 s := ⟨_, rfl⟩
  have zt' : Sized t := by rw [htt]; exact ⟨zt.svc, zt.op, zt.ats, zt.evs⟩
  have zu' : Sized u := by rw [huu]; exact ⟨zu.svc, zu.op, zu.ats, zu.evs⟩
  have a1 : Alike2 s t := by rw [htt]; exact ⟨rfl, rfl, rfl⟩
  have a2 : Alike2 s u := by rw [huu]; exact ⟨rfl, rfl, rfl⟩
  have HA := Lib.hid (And.intro a1 a2)
  have HZ := Lib.hid (And.intro zs (And.intro zt' zu'))
  have HTU := Lib.hid (And.intro htt huu)
  clear hX hY hZ hW hk ha hb hc hU hs ht hu fs ft fu zs zt zu zt' zu' a1 a2 htt huu hXs hYs hZs
  go_enter Tryd.func4, Tryd.ntmps4
  go_upto_region 1 with fail
  rw [HW.out]
  go_upto_region 2 with (go_at_call 8; (with_reducible refine HAW.out.mono ?_); rintro e w1 ⟨rfl, hk1⟩; have HK1 := Lib.hid (And.intro (HB.out.1.trans hk1 (U := fun _ => False) (fun _ _ e => e) (fun _ _ e => e)) (And.intro (blk_kept hk1 HB.out.2.1 (fun h => h)) (And.intro (blk_kept hk1 HB.out.2.2.1 (fun h => h)) (blk_kept hk1 HB.out.2.2.2 (fun h => h))))); clear hk1)
  clear HB HAW HW
  have HN := Lib.hid (HF.out.2.1.named w1 HF.out.1)
  go_upto_region 3 with (first | (refine wpList_load33 rfl _ rfl w.heap.size X rfl HK1.out.2.1 HSZ.out.1 ?_) | (refine wpList_load33 rfl _ rfl (w.heap.size + 1) Y0 rfl HK1.out.2.2.1 HSZ.out.2.1 ?_) | (go_at_call 9; (with_reducible refine HN.out.mono ?_); rintro e w2 ⟨Y, rfl, hf2, hk2⟩; have hy2 := hf2.size; have HY2 := Lib.hid hf2; have HK2 := Lib.hid (And.intro (HK1.out.1.trans hk2 (U := fun _ => False) (fun _ _ e => e) (fun _ _ e => e)) (And.intro (blk_kept hk2 HK1.out.2.1 (fun h => h)) (And.intro (blk_kept hk2 HK1.out.2.2.1 (fun h => h)) (blk_kept hk2 HK1.out.2.2.2 (fun h => h))))); clear hk2 hf2) | (refine wpList_store33 rfl _ _ rfl (w.heap.size + 1) Y0 Y rfl rfl HK2.out.2.2.1 hy2 HSZ.out.2.1 HY2.out.one ?_; intro w3 hb3 hk3; have HV3 := Lib.hid (And.intro hb3 hk3); clear hb3 hk3))
  have hkw3 : Kept (fun _ => False) w w3 := HK2.out.1.trans HV3.out.2 (fun _ _ e => e) (fun i hi e => by omega)
  have HK3 := Lib.hid (And.intro hkw3 (And.intro (blk_kept HV3.out.2 HK2.out.2.1 (by omega)) (And.intro HV3.out.1 (blk_kept HV3.out.2 HK2.out.2.2.2 (by omega)))))
  have HN := Lib.hid (HF.out.2.2.named w3 HF.out.1)
  clear hkw3 HV3 HK1
  go_upto_region 4 with (first | (refine wpList_load33 rfl _ rfl w.heap.size X rfl HK3.out.2.1 HSZ.out.1 ?_) | (refine wpList_load33 rfl _ rfl (w.heap.size + 1 + 1) Z0 rfl HK3.out.2.2.2 HSZ.out.2.2 ?_) | (go_at_call 9; (with_reducible refine HN.out.mono ?_); rintro e w4 ⟨Z, rfl, hf4, hk4⟩; have hz2 := hf4.size; have HZ4 := Lib.hid hf4; have HK4 := Lib.hid (And.intro (HK3.out.1.trans hk4 (U := fun _ => False) (fun _ _ e => e) (fun _ _ e => e)) (And.intro (blk_kept hk4 HK3.out.2.1 (fun h => h)) (And.intro (blk_kept hk4 HK3.out.2.2.1 (fun h => h)) (blk_kept hk4 HK3.out.2.2.2 (fun h => h))))); clear hk4 hf4) | (refine wpList_store33 rfl _ _ rfl (w.heap.size + 1 + 1) Z0 Z rfl rfl HK4.out.2.2.2 hz2 HSZ.out.2.2 HZ4.out.one ?_; intro w5 hb5 hk5; have HV5 := Lib.hid (And.intro hb5 hk5); clear hb5 hk5))
  have hkw5 : Kept (fun _ => False) w w5 := HK4.out.1.trans HV5.out.2 (fun _ _ e => e) (fun i hi e => by omega)
  have hY := HY2.out
  have hZ := HZ4.out
  rw [← HTU.out.1] at hY
  rw [← HTU.out.2] at hZ
  have HK := Lib.hid (And.intro hkw5 (And.intro (show SpAt w5 w.heap.size X s from ⟨blk_kept HV5.out.2 HK4.out.2.1 (by omega), HF.out.1.kept hkw5⟩) (And.intro (show SpAt w5 (w.heap.size + 1) Y t from ⟨blk_kept HV5.out.2 HK4.out.2.2.1 (by omega), hY.kept hkw5⟩) (show SpAt w5 (w.heap.size + 1 + 1) Z u from ⟨HV5.out.1, hZ.kept hkw5⟩))))
  have HO := Lib.hid (And.intro HF.out.1 (And.intro hY hZ))
  have HS := Lib.hid (And.intro HSZ.out.1 (And.intro hy2 hz2))
  obtain ⟨cs, hcs⟩ : ∃ c, c = checkS s := ⟨_, rfl⟩
  obtain ⟨ct, hct⟩ : ∃ c, c = checkS t := ⟨_, rfl⟩
  obtain ⟨cu, hcu⟩ : ∃ c, c = checkS u := ⟨_, rfl⟩
  have n1 : joinN s t = if cs = 0 then ct else cs := by rw [hcs, hct]; exact HA.out.1.joinN
  have n2 : joinN t u = if ct = 0 then cu else ct := by rw [hct, hcu]; exact (HA.out.1.symm.trans HA.out.2).joinN
  have k1 : ∀ V, Kept (fun _ => False) w V → Calls Tryd.prog 10 #[.agg X] V (IntPost cs V) := fun V hk => by rw [hcs]; exact (HF.out.1.kept hk).check HZ.out.1 (Utf8Tabs.kept HU.out hk (fun h => h) (fun h => h))
  have k2 : ∀ V, Kept (fun _ => False) w V → Calls Tryd.prog 10 #[.agg Y] V (IntPost ct V) := fun V hk => by rw [hct]; exact (hY.kept hk).check HZ.out.2.1 (Utf8Tabs.kept HU.out hk (fun h => h) (fun h => h))
  have k3 : ∀ V, Kept (fun _ => False) w V → Calls Tryd.prog 10 #[.agg Z] V (IntPost cu V) := fun V hk => by rw [hcu]; exact (hZ.kept hk).check HZ.out.2.2 (Utf8Tabs.kept HU.out hk (fun h => h) (fun h => h))
  obtain ⟨y0, y1, y2, y3, y4, y5, y6, y7, y8, y9, y10, y11, y12, hLY⟩ := array13 hy2
  obtain ⟨z0, z1, z2, z3, z4, z5, z6, z7, z8, z9, z10, z11, z12, hLZ⟩ := array13 hz2
  rw [hLY] at k2
  rw [hLZ] at k3
  have HC := Lib.hid (And.intro k1 (And.intro k2 k3))
  have HN12 := Lib.hid (And.intro n1 n2)
  have HCC := Lib.hid (And.intro hcs (And.intro hct hcu))
  have HLY := Lib.hid hLY
  have HLZ := Lib.hid hLZ
  have hcy := SpAt.cells HK.out.2.2.1 y0 y1 y2 y3 y4 y5 y6 y7 y8 y9 y10 y11 y12 hLY
  clear k1 k2 k3 n1 n2 hcs hct hcu hY hZ hkw5 HV5 HK4 HK3 HK2 HN HF HSZ HY2 HZ4 hLY hLZ
  clear hcy
  by_cases h1 : cs = 0
  case neg =>
    as_aux_lemma =>
      have f1 : (cs == 0) = false := by simpa using h1
      have f2 : (cs != 0) = true := by simp only [bne, f1, Bool.not_false]
      have HH := Lib.hid h1
      clear h1
      go_upto_region 5 with (first | (refine wpList_load33 rfl _ rfl w.heap.size X rfl HK.out.2.1.1 HS.out.1 ?_) | (go_at_call 10; (with_reducible refine (HC.out.1 _ HK.out.1).mono ?_); rintro e w6 ⟨rfl, hk1⟩; have HK6 := Lib.hid (And.intro (HK.out.1.trans hk1 (U := fun _ => False) (fun _ _ e => e) (fun _ _ e => e)) (And.intro (SpAt.kept HK.out.2.1 hk1) (And.intro (SpAt.kept HK.out.2.2.1 hk1) (SpAt.kept HK.out.2.2.2 hk1)))); obtain ⟨p0, p1, p2, p3, p4, p5, p6, p7, p8, p9, p10, p11, p12⟩ := SpAt.cells HK6.out.2.2.1 y0 y1 y2 y3 y4 y5 y6 y7 y8 y9 y10 y11 y12 HLY.out; clear hk1))
      clear p0 p1 p2 p3 p4 p5 p6 p7 p8 p9 p10 p11 p12
      have HJ1 := Lib.hid (HK6.out.2.1.2.join HK6.out.2.2.1.2 HZ.out.1 HZ.out.2.1 (Utf8Tabs.kept HU.out HK6.out.1 (fun h => h) (fun h => h)))
      go_upto_region 6 with (first | (refine wpList_load33 rfl _ rfl w.heap.size X rfl HK6.out.2.1.1 HS.out.1 ?_) | (refine wpList_load33 rfl _ rfl (w.heap.size + 1) Y rfl HK6.out.2.2.1.1 HS.out.2.1 ?_) | (go_at_call 11; (with_reducible refine HJ1.out.mono ?_); rintro e v1 ⟨Z1, rfl, hz1, ho1, _, hk1⟩; have HV1 := Lib.hid (And.intro (HK6.out.1.trans hk1 (U := fun _ => False) (fun _ _ e => e) (fun _ _ e => e)) (And.intro (SpAt.kept HK6.out.2.1 hk1) (And.intro (SpAt.kept HK6.out.2.2.1 hk1) (SpAt.kept HK6.out.2.2.2 hk1)))); have HN1 := Lib.hid (heap_alloc_new v1 (.cells zcells 33)); clear hk1) | (refine wpList_store33 rfl _ _ rfl v1.heap.size zcells Z1 rfl rfl HN1.out hz1 rfl ho1 ?_; intro v2 hb2 hk2; have HB2 := Lib.hid (And.intro hb2 hk2); clear hb2 hk2))
      have hk1 : Kept (fun _ => False) v1 v2 := (Kept.alloc (fun _ => False) v1 _).trans HB2.out.2 (fun _ _ e => e) (fun i hi e => by omega)
      have HV2 := Lib.hid (And.intro (HV1.out.1.trans hk1 (U := fun _ => False) (fun _ _ e => e) (fun _ _ e => e)) (And.intro (SpAt.kept HV1.out.2.1 hk1) (And.intro (SpAt.kept HV1.out.2.2.1 hk1) (SpAt.kept HV1.out.2.2.2 hk1))))
      clear hk1 HB2 HN1 HJ1
      have HJ2 := Lib.hid (HV2.out.2.2.1.2.join HV2.out.2.2.2.2 HZ.out.2.1 HZ.out.2.2 (Utf8Tabs.kept HU.out HV2.out.1 (fun h => h) (fun h => h)))
      go_upto_region 7 with (first | (refine wpList_load33 rfl _ rfl (w.heap.size + 1) Y rfl HV2.out.2.2.1.1 HS.out.2.1 ?_) | (refine wpList_load33 rfl _ rfl (w.heap.size + 1 + 1) Z rfl HV2.out.2.2.2.1 HS.out.2.2 ?_) | (go_at_call 11; (with_reducible refine HJ2.out.mono ?_); rintro e v3 ⟨Z2, rfl, hz3, ho3, _, hk1⟩; have HV3 := Lib.hid (And.intro (HV2.out.1.trans hk1 (U := fun _ => False) (fun _ _ e => e) (fun _ _ e => e)) (And.intro (SpAt.kept HV2.out.2.1 hk1) (And.intro (SpAt.kept HV2.out.2.2.1 hk1) (SpAt.kept HV2.out.2.2.2 hk1)))); have HN3 := Lib.hid (heap_alloc_new v3 (.cells zcells 33)); clear hk1) | (refine wpList_store33 rfl _ _ rfl v3.heap.size zcells Z2 rfl rfl HN3.out hz3 rfl ho3 ?_; intro v4 hb2 hk2; have HB2 := Lib.hid (And.intro hb2 hk2); clear hb2 hk2))
      have hkf := HV3.out.1.trans ((Kept.alloc (fun _ => False) v3 _).trans HB2.out.2 (U := fun _ => False) (fun _ _ e => e) (fun i hi e => by omega)) (U := fun _ => False) (fun _ _ e => e) (fun _ _ e => e)
      have HKF := Lib.hid hkf
      clear hkf HB2 HN3 HJ2
      obtain ⟨m1, hm1⟩ : ∃ m, m = joinN s t := ⟨_, rfl⟩
      rw [← hm1]
      have e1 : m1 = cs := by rw [hm1, HN12.out.1, if_neg HH.out]
      subst e1
      clear hm1
      go_wp2_with fail
      go_ret
      exact ⟨rfl, HKF.out⟩

  by_cases h2 : ct = 0
  case neg =>
    as_aux_lemma =>
      have f3 : (ct == 0) = false := by simpa using h2
      have f4 : (ct != 0) = true := by simp only [bne, f3, Bool.not_false]
      have HH := Lib.hid h2
      clear h2
      subst h1
      go_upto_region 5 with (first | (refine wpList_load33 rfl _ rfl w.heap.size X rfl HK.out.2.1.1 HS.out.1 ?_) | (go_at_call 10; (with_reducible refine (HC.out.1 _ HK.out.1).mono ?_); rintro e w6 ⟨rfl, hk1⟩; have HK6 := Lib.hid (And.intro (HK.out.1.trans hk1 (U := fun _ => False) (fun _ _ e => e) (fun _ _ e => e)) (And.intro (SpAt.kept HK.out.2.1 hk1) (And.intro (SpAt.kept HK.out.2.2.1 hk1) (SpAt.kept HK.out.2.2.2 hk1)))); obtain ⟨p0, p1, p2, p3, p4, p5, p6, p7, p8, p9, p10, p11, p12⟩ := SpAt.cells HK6.out.2.2.1 y0 y1 y2 y3 y4 y5 y6 y7 y8 y9 y10 y11 y12 HLY.out; clear hk1) | (go_at_call 10; (with_reducible refine (HC.out.2.1 _ HK6.out.1).mono ?_); rintro e w7 ⟨rfl, hk1⟩; have HK7 := Lib.hid (And.intro (HK6.out.1.trans hk1 (U := fun _ => False) (fun _ _ e => e) (fun _ _ e => e)) (And.intro (SpAt.kept HK6.out.2.1 hk1) (And.intro (SpAt.kept HK6.out.2.2.1 hk1) (SpAt.kept HK6.out.2.2.2 hk1)))); clear hk1 p0 p1 p2 p3 p4 p5 p6 p7 p8 p9 p10 p11 p12; obtain ⟨q0, q1, q2, q3, q4, q5, q6, q7, q8, q9, q10, q11, q12⟩ := SpAt.cells HK7.out.2.2.2 z0 z1 z2 z3 z4 z5 z6 z7 z8 z9 z10 z11 z12 HLZ.out))
      clear q0 q1 q2 q3 q4 q5 q6 q7 q8 q9 q10 q11 q12
      have HJ1 := Lib.hid (HK7.out.2.1.2.join HK7.out.2.2.1.2 HZ.out.1 HZ.out.2.1 (Utf8Tabs.kept HU.out HK7.out.1 (fun h => h) (fun h => h)))
      go_upto_region 6 with (first | (refine wpList_load33 rfl _ rfl w.heap.size X rfl HK7.out.2.1.1 HS.out.1 ?_) | (refine wpList_load33 rfl _ rfl (w.heap.size + 1) Y rfl HK7.out.2.2.1.1 HS.out.2.1 ?_) | (go_at_call 11; (with_reducible refine HJ1.out.mono ?_); rintro e v1 ⟨Z1, rfl, hz1, ho1, _, hk1⟩; have HV1 := Lib.hid (And.intro (HK7.out.1.trans hk1 (U := fun _ => False) (fun _ _ e => e) (fun _ _ e => e)) (And.intro (SpAt.kept HK7.out.2.1 hk1) (And.intro (SpAt.kept HK7.out.2.2.1 hk1) (SpAt.kept HK7.out.2.2.2 hk1)))); have HN1 := Lib.hid (heap_alloc_new v1 (.cells zcells 33)); clear hk1) | (refine wpList_store33 rfl _ _ rfl v1.heap.size zcells Z1 rfl rfl HN1.out hz1 rfl ho1 ?_; intro v2 hb2 hk2; have HB2 := Lib.hid (And.intro hb2 hk2); clear hb2 hk2))
      have hk1 : Kept (fun _ => False) v1 v2 := (Kept.alloc (fun _ => False) v1 _).trans HB2.out.2 (fun _ _ e => e) (fun i hi e => by omega)
      have HV2 := Lib.hid (And.intro (HV1.out.1.trans hk1 (U := fun _ => False) (fun _ _ e => e) (fun _ _ e => e)) (And.intro (SpAt.kept HV1.out.2.1 hk1) (And.intro (SpAt.kept HV1.out.2.2.1 hk1) (SpAt.kept HV1.out.2.2.2 hk1))))
      clear hk1 HB2 HN1 HJ1
      have HJ2 := Lib.hid (HV2.out.2.2.1.2.join HV2.out.2.2.2.2 HZ.out.2.1 HZ.out.2.2 (Utf8Tabs.kept HU.out HV2.out.1 (fun h => h) (fun h => h)))
      go_upto_region 7 with (first | (refine wpList_load33 rfl _ rfl (w.heap.size + 1) Y rfl HV2.out.2.2.1.1 HS.out.2.1 ?_) | (refine wpList_load33 rfl _ rfl (w.heap.size + 1 + 1) Z rfl HV2.out.2.2.2.1 HS.out.2.2 ?_) | (go_at_call 11; (with_reducible refine HJ2.out.mono ?_); rintro e v3 ⟨Z2, rfl, hz3, ho3, _, hk1⟩; have HV3 := Lib.hid (And.intro (HV2.out.1.trans hk1 (U := fun _ => False) (fun _ _ e => e) (fun _ _ e => e)) (And.intro (SpAt.kept HV2.out.2.1 hk1) (And.intro (SpAt.kept HV2.out.2.2.1 hk1) (SpAt.kept HV2.out.2.2.2 hk1)))); have HN3 := Lib.hid (heap_alloc_new v3 (.cells zcells 33)); clear hk1) | (refine wpList_store33 rfl _ _ rfl v3.heap.size zcells Z2 rfl rfl HN3.out hz3 rfl ho3 ?_; intro v4 hb2 hk2; have HB2 := Lib.hid (And.intro hb2 hk2); clear hb2 hk2))
      have hkf := HV3.out.1.trans ((Kept.alloc (fun _ => False) v3 _).trans HB2.out.2 (U := fun _ => False) (fun _ _ e => e) (fun i hi e => by omega)) (U := fun _ => False) (fun _ _ e => e) (fun _ _ e => e)
      have HKF := Lib.hid hkf
      clear hkf HB2 HN3 HJ2
      obtain ⟨m1, hm1⟩ : ∃ m, m = joinN s t := ⟨_, rfl⟩
      rw [← hm1]
      have e1 : m1 = ct := by rw [hm1, HN12.out.1]; simp
      subst e1
      clear hm1
      go_wp2_with fail
      go_ret
      exact ⟨rfl, HKF.out⟩

  by_cases h3 : cu = 0
  case neg =>
    as_aux_lemma =>
      have f5 : (cu == 0) = false := by simpa using h3
      have f6 : (cu != 0) = true := by simp only [bne, f5, Bool.not_false]
      have HH := Lib.hid h3
      clear h3
      subst h1 h2
      go_upto_region 5 with (first | (refine wpList_load33 rfl _ rfl w.heap.size X rfl HK.out.2.1.1 HS.out.1 ?_) | (go_at_call 10; (with_reducible refine (HC.out.1 _ HK.out.1).mono ?_); rintro e w6 ⟨rfl, hk1⟩; have HK6 := Lib.hid (And.intro (HK.out.1.trans hk1 (U := fun _ => False) (fun _ _ e => e) (fun _ _ e => e)) (And.intro (SpAt.kept HK.out.2.1 hk1) (And.intro (SpAt.kept HK.out.2.2.1 hk1) (SpAt.kept HK.out.2.2.2 hk1)))); obtain ⟨p0, p1, p2, p3, p4, p5, p6, p7, p8, p9, p10, p11, p12⟩ := SpAt.cells HK6.out.2.2.1 y0 y1 y2 y3 y4 y5 y6 y7 y8 y9 y10 y11 y12 HLY.out; clear hk1) | (go_at_call 10; (with_reducible refine (HC.out.2.1 _ HK6.out.1).mono ?_); rintro e w7 ⟨rfl, hk1⟩; have HK7 := Lib.hid (And.intro (HK6.out.1.trans hk1 (U := fun _ => False) (fun _ _ e => e) (fun _ _ e => e)) (And.intro (SpAt.kept HK6.out.2.1 hk1) (And.intro (SpAt.kept HK6.out.2.2.1 hk1) (SpAt.kept HK6.out.2.2.2 hk1)))); clear hk1 p0 p1 p2 p3 p4 p5 p6 p7 p8 p9 p10 p11 p12; obtain ⟨q0, q1, q2, q3, q4, q5, q6, q7, q8, q9, q10, q11, q12⟩ := SpAt.cells HK7.out.2.2.2 z0 z1 z2 z3 z4 z5 z6 z7 z8 z9 z10 z11 z12 HLZ.out) | (go_at_call 10; (with_reducible refine (HC.out.2.2 _ HK7.out.1).mono ?_); rintro e w8 ⟨rfl, hk1⟩; have HK8 := Lib.hid (And.intro (HK7.out.1.trans hk1 (U := fun _ => False) (fun _ _ e => e) (fun _ _ e => e)) (And.intro (SpAt.kept HK7.out.2.1 hk1) (And.intro (SpAt.kept HK7.out.2.2.1 hk1) (SpAt.kept HK7.out.2.2.2 hk1)))); clear hk1 q0 q1 q2 q3 q4 q5 q6 q7 q8 q9 q10 q11 q12))
      have HJ1 := Lib.hid (HK8.out.2.1.2.join HK8.out.2.2.1.2 HZ.out.1 HZ.out.2.1 (Utf8Tabs.kept HU.out HK8.out.1 (fun h => h) (fun h => h)))
      go_upto_region 6 with (first | (refine wpList_load33 rfl _ rfl w.heap.size X rfl HK8.out.2.1.1 HS.out.1 ?_) | (refine wpList_load33 rfl _ rfl (w.heap.size + 1) Y rfl HK8.out.2.2.1.1 HS.out.2.1 ?_) | (go_at_call 11; (with_reducible refine HJ1.out.mono ?_); rintro e v1 ⟨Z1, rfl, hz1, ho1, _, hk1⟩; have HV1 := Lib.hid (And.intro (HK8.out.1.trans hk1 (U := fun _ => False) (fun _ _ e => e) (fun _ _ e => e)) (And.intro (SpAt.kept HK8.out.2.1 hk1) (And.intro (SpAt.kept HK8.out.2.2.1 hk1) (SpAt.kept HK8.out.2.2.2 hk1)))); have HN1 := Lib.hid (heap_alloc_new v1 (.cells zcells 33)); clear hk1) | (refine wpList_store33 rfl _ _ rfl v1.heap.size zcells Z1 rfl rfl HN1.out hz1 rfl ho1 ?_; intro v2 hb2 hk2; have HB2 := Lib.hid (And.intro hb2 hk2); clear hb2 hk2))
      have hk1 : Kept (fun _ => False) v1 v2 := (Kept.alloc (fun _ => False) v1 _).trans HB2.out.2 (fun _ _ e => e) (fun i hi e => by omega)
      have HV2 := Lib.hid (And.intro (HV1.out.1.trans hk1 (U := fun _ => False) (fun _ _ e => e) (fun _ _ e => e)) (And.intro (SpAt.kept HV1.out.2.1 hk1) (And.intro (SpAt.kept HV1.out.2.2.1 hk1) (SpAt.kept HV1.out.2.2.2 hk1))))
      clear hk1 HB2 HN1 HJ1
      have HJ2 := Lib.hid (HV2.out.2.2.1.2.join HV2.out.2.2.2.2 HZ.out.2.1 HZ.out.2.2 (Utf8Tabs.kept HU.out HV2.out.1 (fun h => h) (fun h => h)))
      go_upto_region 7 with (first | (refine wpList_load33 rfl _ rfl (w.heap.size + 1) Y rfl HV2.out.2.2.1.1 HS.out.2.1 ?_) | (refine wpList_load33 rfl _ rfl (w.heap.size + 1 + 1) Z rfl HV2.out.2.2.2.1 HS.out.2.2 ?_) | (go_at_call 11; (with_reducible refine HJ2.out.mono ?_); rintro e v3 ⟨Z2, rfl, hz3, ho3, _, hk1⟩; have HV3 := Lib.hid (And.intro (HV2.out.1.trans hk1 (U := fun _ => False) (fun _ _ e => e) (fun _ _ e => e)) (And.intro (SpAt.kept HV2.out.2.1 hk1) (And.intro (SpAt.kept HV2.out.2.2.1 hk1) (SpAt.kept HV2.out.2.2.2 hk1)))); have HN3 := Lib.hid (heap_alloc_new v3 (.cells zcells 33)); clear hk1) | (refine wpList_store33 rfl _ _ rfl v3.heap.size zcells Z2 rfl rfl HN3.out hz3 rfl ho3 ?_; intro v4 hb2 hk2; have HB2 := Lib.hid (And.intro hb2 hk2); clear hb2 hk2))
      have hkf := HV3.out.1.trans ((Kept.alloc (fun _ => False) v3 _).trans HB2.out.2 (U := fun _ => False) (fun _ _ e => e) (fun i hi e => by omega)) (U := fun _ => False) (fun _ _ e => e) (fun _ _ e => e)
      have HKF := Lib.hid hkf
      clear hkf HB2 HN3 HJ2
      obtain ⟨m1, hm1⟩ : ∃ m, m = joinN s t := ⟨_, rfl⟩
      obtain ⟨m2, hm2⟩ : ∃ m, m = joinN t u := ⟨_, rfl⟩
      rw [← hm1, ← hm2]
      have e1 : m1 = 0 := by rw [hm1, HN12.out.1]; simp
      have e2 : m2 = cu := by rw [hm2, HN12.out.2]; simp
      subst e1 e2
      clear hm1 hm2
      go_wp2_with fail
      go_ret
      exact ⟨rfl, HKF.out⟩

  subst h1 h2 h3
  go_upto_region 8 with (first | (refine wpList_load33 rfl _ rfl w.heap.size X rfl HK.out.2.1.1 HS.out.1 ?_) | (go_at_call 10; (with_reducible refine (HC.out.1 _ HK.out.1).mono ?_); rintro e w6 ⟨rfl, hk1⟩; have HK6 := Lib.hid (And.intro (HK.out.1.trans hk1 (U := fun _ => False) (fun _ _ e => e) (fun _ _ e => e)) (And.intro (SpAt.kept HK.out.2.1 hk1) (And.intro (SpAt.kept HK.out.2.2.1 hk1) (SpAt.kept HK.out.2.2.2 hk1)))); obtain ⟨p0, p1, p2, p3, p4, p5, p6, p7, p8, p9, p10, p11, p12⟩ := SpAt.cells HK6.out.2.2.1 y0 y1 y2 y3 y4 y5 y6 y7 y8 y9 y10 y11 y12 HLY.out; clear hk1) | (go_at_call 10; (with_reducible refine (HC.out.2.1 _ HK6.out.1).mono ?_); rintro e w7 ⟨rfl, hk1⟩; have HK7 := Lib.hid (And.intro (HK6.out.1.trans hk1 (U := fun _ => False) (fun _ _ e => e) (fun _ _ e => e)) (And.intro (SpAt.kept HK6.out.2.1 hk1) (And.intro (SpAt.kept HK6.out.2.2.1 hk1) (SpAt.kept HK6.out.2.2.2 hk1)))); clear hk1 p0 p1 p2 p3 p4 p5 p6 p7 p8 p9 p10 p11 p12; obtain ⟨q0, q1, q2, q3, q4, q5, q6, q7, q8, q9, q10, q11, q12⟩ := SpAt.cells HK7.out.2.2.2 z0 z1 z2 z3 z4 z5 z6 z7 z8 z9 z10 z11 z12 HLZ.out) | (go_at_call 10; (with_reducible refine (HC.out.2.2 _ HK7.out.1).mono ?_); rintro e w8 ⟨rfl, hk1⟩; have HK8 := Lib.hid (And.intro (HK7.out.1.trans hk1 (U := fun _ => False) (fun _ _ e => e) (fun _ _ e => e)) (And.intro (SpAt.kept HK7.out.2.1 hk1) (And.intro (SpAt.kept HK7.out.2.2.1 hk1) (SpAt.kept HK7.out.2.2.2 hk1)))); clear hk1 q0 q1 q2 q3 q4 q5 q6 q7 q8 q9 q10 q11 q12))
  clear HN12 HK6 HK7 HK HC
  have q1 := HCC.out.1.symm
  have q2 := HCC.out.2.1.symm
  have q3 := HCC.out.2.2.symm
  have a12 := HA.out.1
  have a13 := HA.out.2
  have HQ := Lib.hid (And.intro q1 (And.intro q2 q3))
  have j1 := a12.joinN0 q1 q2
  have j2 := a12.symm.joinN0 q2 q1
  have j3 := (a12.symm.trans a13).joinN0 q2 q3
  have j4 := (a12.join a13).joinN0 (checkS_join q1 q2) q3
  have j5 := (Alike2.join (a12.symm.trans a13) a12.symm).symm.joinN0 q1 (checkS_join q2 q3)
  have j6 : joinN s s = 0 := Alike2.joinN0 ⟨rfl, rfl, rfl⟩ q1 q1
  have HJN := Lib.hid (And.intro j1 (And.intro j2 (And.intro j3 (And.intro j4 (And.intro j5 j6)))))
  have hzz := HZ.out
  have HZJ := Lib.hid (And.intro (sized_join hzz.1 hzz.2.1) (sized_join hzz.2.1 hzz.2.2))
  clear q1 q2 q3 a12 a13 j1 j2 j3 j4 j5 j6 hzz HCC
  have HJ := Lib.hid (HK8.out.2.1.2.join0 HK8.out.2.2.1.2 HZ.out.1 HZ.out.2.1 (Utf8Tabs.kept HU.out HK8.out.1 (fun h => h) (fun h => h)) HJN.out.1)
  go_upto_region 9 with (first | (refine wpList_load33 rfl _ rfl w.heap.size X rfl HK8.out.2.1.1 HS.out.1 ?_) | (refine wpList_load33 rfl _ rfl (w.heap.size + 1) Y rfl HK8.out.2.2.1.1 HS.out.2.1 ?_) | (go_at_call 11; (with_reducible refine HJ.out.mono ?_); rintro e v1 ⟨R0, rfl, hf1, hk1⟩; have HG0 := Lib.hid (And.intro (HK8.out.1.trans hk1 (U := fun _ => False) (fun _ _ e => e) (fun _ _ e => e)) (And.intro (SpAt.kept HK8.out.2.1 hk1) (And.intro (SpAt.kept HK8.out.2.2.1 hk1) (SpAt.kept HK8.out.2.2.2 hk1)))); have HN1 := Lib.hid (heap_alloc_new v1 (.cells zcells 33)); have HFR := Lib.hid hf1; have hrs := hf1.size; clear hk1 hf1) | (refine wpList_store33 rfl _ _ rfl v1.heap.size zcells R0 rfl rfl HN1.out hrs rfl HFR.out.one ?_; intro v2 hb2 hk2; have HB2 := Lib.hid (And.intro hb2 hk2); clear hb2 hk2))
  obtain ⟨hk1, hat⟩ := SpAt.stored (o := .cells zcells 33) HFR.out HB2.out.1 HB2.out.2
  have HT := Lib.hid (And.intro (HG0.out.1.trans hk1 (U := fun _ => False) (fun _ _ e => e) (fun _ _ e => e)) (And.intro (SpAt.kept HG0.out.2.1 hk1) (And.intro (SpAt.kept HG0.out.2.2.1 hk1) (SpAt.kept HG0.out.2.2.2 hk1))))
  obtain ⟨g0, hg0⟩ : ∃ g, g = v1.heap.size := ⟨_, rfl⟩
  rw [← hg0] at hat ⊢
  have HR0 := Lib.hid hrs
  have HI0 := Lib.hid (And.intro HT.out.1 (And.intro HT.out.2.1 (And.intro HT.out.2.2.1 (And.intro HT.out.2.2.2 hat))))
  clear hk1 hat hg0 HT HB2 HN1 HFR hrs HJ HK8 HG0
  obtain ⟨V0, rfl⟩ : ∃ V : World, V = v2 := ⟨_, rfl⟩
  have HJ := Lib.hid (HI0.out.2.2.1.2.join0 HI0.out.2.1.2 HZ.out.2.1 HZ.out.1 (Utf8Tabs.kept HU.out HI0.out.1 (fun h => h) (fun h => h)) HJN.out.2.1)
  go_upto_region 10 with (first | (refine wpList_load33 rfl _ rfl (w.heap.size + 1) Y rfl HI0.out.2.2.1.1 HS.out.2.1 ?_) | (refine wpList_load33 rfl _ rfl w.heap.size X rfl HI0.out.2.1.1 HS.out.1 ?_) | (go_at_call 11; (with_reducible refine HJ.out.mono ?_); rintro e v1 ⟨R1, rfl, hf1, hk1⟩; have HG1 := Lib.hid (And.intro (HI0.out.1.trans hk1 (U := fun _ => False) (fun _ _ e => e) (fun _ _ e => e)) (And.intro (SpAt.kept HI0.out.2.1 hk1) (And.intro (SpAt.kept HI0.out.2.2.1 hk1) (And.intro (SpAt.kept HI0.out.2.2.2.1 hk1) (SpAt.kept HI0.out.2.2.2.2 hk1))))); have HN1 := Lib.hid (heap_alloc_new v1 (.cells zcells 33)); have HFR := Lib.hid hf1; have hrs := hf1.size; clear hk1 hf1) | (refine wpList_store33 rfl _ _ rfl v1.heap.size zcells R1 rfl rfl HN1.out hrs rfl HFR.out.one ?_; intro v2 hb2 hk2; have HB2 := Lib.hid (And.intro hb2 hk2); clear hb2 hk2))
  obtain ⟨hk1, hat⟩ := SpAt.stored (o := .cells zcells 33) HFR.out HB2.out.1 HB2.out.2
  have HT := Lib.hid (And.intro (HG1.out.1.trans hk1 (U := fun _ => False) (fun _ _ e => e) (fun _ _ e => e)) (And.intro (SpAt.kept HG1.out.2.1 hk1) (And.intro (SpAt.kept HG1.out.2.2.1 hk1) (And.intro (SpAt.kept HG1.out.2.2.2.1 hk1) (SpAt.kept HG1.out.2.2.2.2 hk1)))))
  obtain ⟨g1, hg1⟩ : ∃ g, g = v1.heap.size := ⟨_, rfl⟩
  rw [← hg1] at hat ⊢
  have HR1 := Lib.hid hrs
  have HI1 := Lib.hid (And.intro HT.out.1 (And.intro HT.out.2.1 (And.intro HT.out.2.2.1 (And.intro HT.out.2.2.2.1 (And.intro HT.out.2.2.2.2 hat)))))
  clear hk1 hat hg1 HT HB2 HN1 HFR hrs HJ HI0 HG1
  obtain ⟨V1, rfl⟩ : ∃ V : World, V = v2 := ⟨_, rfl⟩
  have HJ := Lib.hid (HI1.out.2.2.1.2.join0 HI1.out.2.2.2.1.2 HZ.out.2.1 HZ.out.2.2 (Utf8Tabs.kept HU.out HI1.out.1 (fun h => h) (fun h => h)) HJN.out.2.2.1)
  go_upto_region 11 with (first | (refine wpList_load33 rfl _ rfl (w.heap.size + 1) Y rfl HI1.out.2.2.1.1 HS.out.2.1 ?_) | (refine wpList_load33 rfl _ rfl (w.heap.size + 1 + 1) Z rfl HI1.out.2.2.2.1.1 HS.out.2.2 ?_) | (go_at_call 11; (with_reducible refine HJ.out.mono ?_); rintro e v1 ⟨R2, rfl, hf1, hk1⟩; have HG2 := Lib.hid (And.intro (HI1.out.1.trans hk1 (U := fun _ => False) (fun _ _ e => e) (fun _ _ e => e)) (And.intro (SpAt.kept HI1.out.2.1 hk1) (And.intro (SpAt.kept HI1.out.2.2.1 hk1) (And.intro (SpAt.kept HI1.out.2.2.2.1 hk1) (And.intro (SpAt.kept HI1.out.2.2.2.2.1 hk1) (SpAt.kept HI1.out.2.2.2.2.2 hk1)))))); have HN1 := Lib.hid (heap_alloc_new v1 (.cells zcells 33)); have HFR := Lib.hid hf1; have hrs := hf1.size; clear hk1 hf1) | (refine wpList_store33 rfl _ _ rfl v1.heap.size zcells R2 rfl rfl HN1.out hrs rfl HFR.out.one ?_; intro v2 hb2 hk2; have HB2 := Lib.hid (And.intro hb2 hk2); clear hb2 hk2))
  obtain ⟨hk1, hat⟩ := SpAt.stored (o := .cells zcells 33) HFR.out HB2.out.1 HB2.out.2
  have HT := Lib.hid (And.intro (HG2.out.1.trans hk1 (U := fun _ => False) (fun _ _ e => e) (fun _ _ e => e)) (And.intro (SpAt.kept HG2.out.2.1 hk1) (And.intro (SpAt.kept HG2.out.2.2.1 hk1) (And.intro (SpAt.kept HG2.out.2.2.2.1 hk1) (And.intro (SpAt.kept HG2.out.2.2.2.2.1 hk1) (SpAt.kept HG2.out.2.2.2.2.2 hk1))))))
  obtain ⟨g2, hg2⟩ : ∃ g, g = v1.heap.size := ⟨_, rfl⟩
  rw [← hg2] at hat ⊢
  have HR2 := Lib.hid hrs
  have HI2 := Lib.hid (And.intro HT.out.1 (And.intro HT.out.2.1 (And.intro HT.out.2.2.1 (And.intro HT.out.2.2.2.1 (And.intro HT.out.2.2.2.2.1 (And.intro HT.out.2.2.2.2.2 hat))))))
  clear hk1 hat hg2 HT HB2 HN1 HFR hrs HJ HI1 HG2
  obtain ⟨V2, rfl⟩ : ∃ V : World, V = v2 := ⟨_, rfl⟩
  have HJ := Lib.hid (HI2.out.2.2.2.2.1.2.join0 HI2.out.2.2.2.1.2 HZJ.out.1 HZ.out.2.2 (Utf8Tabs.kept HU.out HI2.out.1 (fun h => h) (fun h => h)) HJN.out.2.2.2.1)
  go_upto_region 12 with (first | (refine wpList_load33 rfl _ rfl g0 R0 rfl HI2.out.2.2.2.2.1.1 HR0.out ?_) | (refine wpList_load33 rfl _ rfl (w.heap.size + 1 + 1) Z rfl HI2.out.2.2.2.1.1 HS.out.2.2 ?_) | (go_at_call 11; (with_reducible refine HJ.out.mono ?_); rintro e v1 ⟨R3, rfl, hf1, hk1⟩; have HG3 := Lib.hid (And.intro (HI2.out.1.trans hk1 (U := fun _ => False) (fun _ _ e => e) (fun _ _ e => e)) (And.intro (SpAt.kept HI2.out.2.1 hk1) (And.intro (SpAt.kept HI2.out.2.2.1 hk1) (And.intro (SpAt.kept HI2.out.2.2.2.1 hk1) (And.intro (SpAt.kept HI2.out.2.2.2.2.1 hk1) (And.intro (SpAt.kept HI2.out.2.2.2.2.2.1 hk1) (SpAt.kept HI2.out.2.2.2.2.2.2 hk1))))))); have HN1 := Lib.hid (heap_alloc_new v1 (.cells zcells 33)); have HFR := Lib.hid hf1; have hrs := hf1.size; clear hk1 hf1) | (refine wpList_store33 rfl _ _ rfl v1.heap.size zcells R3 rfl rfl HN1.out hrs rfl HFR.out.one ?_; intro v2 hb2 hk2; have HB2 := Lib.hid (And.intro hb2 hk2); clear hb2 hk2))
  obtain ⟨hk1, hat⟩ := SpAt.stored (o := .cells zcells 33) HFR.out HB2.out.1 HB2.out.2
  have HT := Lib.hid (And.intro (HG3.out.1.trans hk1 (U := fun _ => False) (fun _ _ e => e) (fun _ _ e => e)) (And.intro (SpAt.kept HG3.out.2.1 hk1) (And.intro (SpAt.kept HG3.out.2.2.1 hk1) (And.intro (SpAt.kept HG3.out.2.2.2.1 hk1) (And.intro (SpAt.kept HG3.out.2.2.2.2.1 hk1) (And.intro (SpAt.kept HG3.out.2.2.2.2.2.1 hk1) (SpAt.kept HG3.out.2.2.2.2.2.2 hk1)))))))
  obtain ⟨g3, hg3⟩ : ∃ g, g = v1.heap.size := ⟨_, rfl⟩
  rw [← hg3] at hat ⊢
  have HR3 := Lib.hid hrs
  have HI3 := Lib.hid (And.intro HT.out.1 (And.intro HT.out.2.1 (And.intro HT.out.2.2.1 (And.intro HT.out.2.2.2.1 (And.intro HT.out.2.2.2.2.1 (And.intro HT.out.2.2.2.2.2.1 (And.intro HT.out.2.2.2.2.2.2 hat)))))))
  clear hk1 hat hg3 HT HB2 HN1 HFR hrs HJ HI2 HG3
  obtain ⟨V3, rfl⟩ : ∃ V : World, V = v2 := ⟨_, rfl⟩
  have HJ := Lib.hid (HI3.out.2.1.2.join0 HI3.out.2.2.2.2.2.2.1.2 HZ.out.1 HZJ.out.2 (Utf8Tabs.kept HU.out HI3.out.1 (fun h => h) (fun h => h)) HJN.out.2.2.2.2.1)
  go_upto_region 13 with (first | (refine wpList_load33 rfl _ rfl w.heap.size X rfl HI3.out.2.1.1 HS.out.1 ?_) | (refine wpList_load33 rfl _ rfl g2 R2 rfl HI3.out.2.2.2.2.2.2.1.1 HR2.out ?_) | (go_at_call 11; (with_reducible refine HJ.out.mono ?_); rintro e v1 ⟨R4, rfl, hf1, hk1⟩; have HG4 := Lib.hid (And.intro (HI3.out.1.trans hk1 (U := fun _ => False) (fun _ _ e => e) (fun _ _ e => e)) (And.intro (SpAt.kept HI3.out.2.1 hk1) (And.intro (SpAt.kept HI3.out.2.2.1 hk1) (And.intro (SpAt.kept HI3.out.2.2.2.1 hk1) (And.intro (SpAt.kept HI3.out.2.2.2.2.1 hk1) (And.intro (SpAt.kept HI3.out.2.2.2.2.2.1 hk1) (And.intro (SpAt.kept HI3.out.2.2.2.2.2.2.1 hk1) (SpAt.kept HI3.out.2.2.2.2.2.2.2 hk1)))))))); have HN1 := Lib.hid (heap_alloc_new v1 (.cells zcells 33)); have HFR := Lib.hid hf1; have hrs := hf1.size; clear hk1 hf1) | (refine wpList_store33 rfl _ _ rfl v1.heap.size zcells R4 rfl rfl HN1.out hrs rfl HFR.out.one ?_; intro v2 hb2 hk2; have HB2 := Lib.hid (And.intro hb2 hk2); clear hb2 hk2))
  obtain ⟨hk1, hat⟩ := SpAt.stored (o := .cells zcells 33) HFR.out HB2.out.1 HB2.out.2
  have HT := Lib.hid (And.intro (HG4.out.1.trans hk1 (U := fun _ => False) (fun _ _ e => e) (fun _ _ e => e)) (And.intro (SpAt.kept HG4.out.2.1 hk1) (And.intro (SpAt.kept HG4.out.2.2.1 hk1) (And.intro (SpAt.kept HG4.out.2.2.2.1 hk1) (And.intro (SpAt.kept HG4.out.2.2.2.2.1 hk1) (And.intro (SpAt.kept HG4.out.2.2.2.2.2.1 hk1) (And.intro (SpAt.kept HG4.out.2.2.2.2.2.2.1 hk1) (SpAt.kept HG4.out.2.2.2.2.2.2.2 hk1))))))))
  obtain ⟨g4, hg4⟩ : ∃ g, g = v1.heap.size := ⟨_, rfl⟩
  rw [← hg4] at hat ⊢
  have HR4 := Lib.hid hrs
  have HI4 := Lib.hid (And.intro HT.out.1 (And.intro HT.out.2.1 (And.intro HT.out.2.2.1 (And.intro HT.out.2.2.2.1 (And.intro HT.out.2.2.2.2.1 (And.intro HT.out.2.2.2.2.2.1 (And.intro HT.out.2.2.2.2.2.2.1 (And.intro HT.out.2.2.2.2.2.2.2 hat))))))))
  clear hk1 hat hg4 HT HB2 HN1 HFR hrs HJ HI3 HG4
  obtain ⟨V4, rfl⟩ : ∃ V : World, V = v2 := ⟨_, rfl⟩
  have HJ := Lib.hid (HI4.out.2.1.2.join0 HI4.out.2.1.2 HZ.out.1 HZ.out.1 (Utf8Tabs.kept HU.out HI4.out.1 (fun h => h) (fun h => h)) HJN.out.2.2.2.2.2)
  go_upto_region 14 with (first | (refine wpList_load33 rfl _ rfl w.heap.size X rfl HI4.out.2.1.1 HS.out.1 ?_) | (refine wpList_load33 rfl _ rfl w.heap.size X rfl HI4.out.2.1.1 HS.out.1 ?_) | (go_at_call 11; (with_reducible refine HJ.out.mono ?_); rintro e v1 ⟨R5, rfl, hf1, hk1⟩; have HG5 := Lib.hid (And.intro (HI4.out.1.trans hk1 (U := fun _ => False) (fun _ _ e => e) (fun _ _ e => e)) (And.intro (SpAt.kept HI4.out.2.1 hk1) (And.intro (SpAt.kept HI4.out.2.2.1 hk1) (And.intro (SpAt.kept HI4.out.2.2.2.1 hk1) (And.intro (SpAt.kept HI4.out.2.2.2.2.1 hk1) (And.intro (SpAt.kept HI4.out.2.2.2.2.2.1 hk1) (And.intro (SpAt.kept HI4.out.2.2.2.2.2.2.1 hk1) (And.intro (SpAt.kept HI4.out.2.2.2.2.2.2.2.1 hk1) (SpAt.kept HI4.out.2.2.2.2.2.2.2.2 hk1))))))))); have HN1 := Lib.hid (heap_alloc_new v1 (.cells zcells 33)); have HFR := Lib.hid hf1; have hrs := hf1.size; clear hk1 hf1) | (refine wpList_store33 rfl _ _ rfl v1.heap.size zcells R5 rfl rfl HN1.out hrs rfl HFR.out.one ?_; intro v2 hb2 hk2; have HB2 := Lib.hid (And.intro hb2 hk2); clear hb2 hk2))
  obtain ⟨hk1, hat⟩ := SpAt.stored (o := .cells zcells 33) HFR.out HB2.out.1 HB2.out.2
  have HT := Lib.hid (And.intro (HG5.out.1.trans hk1 (U := fun _ => False) (fun _ _ e => e) (fun _ _ e => e)) (And.intro (SpAt.kept HG5.out.2.1 hk1) (And.intro (SpAt.kept HG5.out.2.2.1 hk1) (And.intro (SpAt.kept HG5.out.2.2.2.1 hk1) (And.intro (SpAt.kept HG5.out.2.2.2.2.1 hk1) (And.intro (SpAt.kept HG5.out.2.2.2.2.2.1 hk1) (And.intro (SpAt.kept HG5.out.2.2.2.2.2.2.1 hk1) (And.intro (SpAt.kept HG5.out.2.2.2.2.2.2.2.1 hk1) (SpAt.kept HG5.out.2.2.2.2.2.2.2.2 hk1)))))))))
  obtain ⟨g5, hg5⟩ : ∃ g, g = v1.heap.size := ⟨_, rfl⟩
  rw [← hg5] at hat ⊢
  have HR5 := Lib.hid hrs
  have HI5 := Lib.hid (And.intro HT.out.1 (And.intro HT.out.2.1 (And.intro HT.out.2.2.1 (And.intro HT.out.2.2.2.1 (And.intro HT.out.2.2.2.2.1 (And.intro HT.out.2.2.2.2.2.1 (And.intro HT.out.2.2.2.2.2.2.1 (And.intro HT.out.2.2.2.2.2.2.2.1 (And.intro HT.out.2.2.2.2.2.2.2.2 hat)))))))))
  clear hk1 hat hg5 HT HB2 HN1 HFR hrs HJ HI4 HG5
  obtain ⟨V5, rfl⟩ : ∃ V : World, V = v2 := ⟨_, rfl⟩
  obtain ⟨L, hL⟩ : ∃ L, L = joinS (joinS s t) u := ⟨_, rfl⟩
  have hsm := SpF.same HI5.out.2.2.2.2.1.2 HI5.out.2.2.2.2.2.1.2
  rw [sameS_yes (joinS_comm s t)] at hsm
  have HJ := Lib.hid hsm
  clear hsm
  go_upto_region 17 with (first | (refine wpList_load33 rfl _ rfl g0 R0 rfl HI5.out.2.2.2.2.1.1 HR0.out ?_) | (refine wpList_load33 rfl _ rfl g1 R1 rfl HI5.out.2.2.2.2.2.1.1 HR1.out ?_) | (go_at_call 12; (with_reducible refine HJ.out.mono ?_); rintro e m0 ⟨rfl, hk1⟩; have HM0 := Lib.hid (And.intro (HI5.out.1.trans hk1 (U := fun _ => False) (fun _ _ e => e) (fun _ _ e => e)) (And.intro (SpAt.kept HI5.out.2.1 hk1) (And.intro (SpAt.kept HI5.out.2.2.1 hk1) (And.intro (SpAt.kept HI5.out.2.2.2.1 hk1) (And.intro (SpAt.kept HI5.out.2.2.2.2.1 hk1) (And.intro (SpAt.kept HI5.out.2.2.2.2.2.1 hk1) (And.intro (SpAt.kept HI5.out.2.2.2.2.2.2.1 hk1) (And.intro (SpAt.kept HI5.out.2.2.2.2.2.2.2.1 hk1) (And.intro (SpAt.kept HI5.out.2.2.2.2.2.2.2.2.1 hk1) (SpAt.kept HI5.out.2.2.2.2.2.2.2.2.2 hk1)))))))))); clear hk1))
  clear HI5 HJ
  have hsm := SpF.same HM0.out.2.2.2.2.2.2.2.1.2 HM0.out.2.2.2.2.2.2.2.2.1.2
  rw [sameS_yes (joinS_assoc s t u)] at hsm
  have HJ := Lib.hid hsm
  clear hsm
  go_upto_region 18 with (first | (refine wpList_load33 rfl _ rfl g3 R3 rfl HM0.out.2.2.2.2.2.2.2.1.1 HR3.out ?_) | (refine wpList_load33 rfl _ rfl g4 R4 rfl HM0.out.2.2.2.2.2.2.2.2.1.1 HR4.out ?_) | (go_at_call 12; (with_reducible refine HJ.out.mono ?_); rintro e m1 ⟨rfl, hk1⟩; have HM1 := Lib.hid (And.intro (HM0.out.1.trans hk1 (U := fun _ => False) (fun _ _ e => e) (fun _ _ e => e)) (And.intro (SpAt.kept HM0.out.2.1 hk1) (And.intro (SpAt.kept HM0.out.2.2.1 hk1) (And.intro (SpAt.kept HM0.out.2.2.2.1 hk1) (And.intro (SpAt.kept HM0.out.2.2.2.2.1 hk1) (And.intro (SpAt.kept HM0.out.2.2.2.2.2.1 hk1) (And.intro (SpAt.kept HM0.out.2.2.2.2.2.2.1 hk1) (And.intro (SpAt.kept HM0.out.2.2.2.2.2.2.2.1 hk1) (And.intro (SpAt.kept HM0.out.2.2.2.2.2.2.2.2.1 hk1) (SpAt.kept HM0.out.2.2.2.2.2.2.2.2.2 hk1)))))))))); clear hk1))
  clear HM0 HJ
  have hsm := SpF.same HM1.out.2.2.2.2.2.2.2.2.2.2 HM1.out.2.1.2
  rw [sameS_yes (joinS_self s)] at hsm
  have HJ := Lib.hid hsm
  clear hsm
  go_upto_region 19 with (first | (refine wpList_load33 rfl _ rfl g5 R5 rfl HM1.out.2.2.2.2.2.2.2.2.2.1 HR5.out ?_) | (refine wpList_load33 rfl _ rfl w.heap.size X rfl HM1.out.2.1.1 HS.out.1 ?_) | (go_at_call 12; (with_reducible refine HJ.out.mono ?_); rintro e m2 ⟨rfl, hk1⟩; have HM2 := Lib.hid (And.intro (HM1.out.1.trans hk1 (U := fun _ => False) (fun _ _ e => e) (fun _ _ e => e)) (And.intro (SpAt.kept HM1.out.2.1 hk1) (And.intro (SpAt.kept HM1.out.2.2.1 hk1) (And.intro (SpAt.kept HM1.out.2.2.2.1 hk1) (And.intro (SpAt.kept HM1.out.2.2.2.2.1 hk1) (And.intro (SpAt.kept HM1.out.2.2.2.2.2.1 hk1) (And.intro (SpAt.kept HM1.out.2.2.2.2.2.2.1 hk1) (And.intro (SpAt.kept HM1.out.2.2.2.2.2.2.2.1 hk1) (And.intro (SpAt.kept HM1.out.2.2.2.2.2.2.2.2.1 hk1) (SpAt.kept HM1.out.2.2.2.2.2.2.2.2.2 hk1)))))))))); clear hk1))
  clear HM1 HJ
  obtain ⟨x, hx⟩ : ∃ b, b = sameS (joinS (joinS s t) u) s := ⟨_, rfl⟩
  obtain ⟨y, hy⟩ : ∃ b, b = sameS (joinS (joinS s t) u) t := ⟨_, rfl⟩
  obtain ⟨z, hz⟩ : ∃ b, b = sameS (joinS (joinS s t) u) u := ⟨_, rfl⟩
  have hor : (x || y || z) = true := by
    rw [hx, hy, hz]
    rcases join_one (joinS s t) u with h | h
    · rcases join_one s t with h2 | h2
      · rw [sameS_yes (s := joinS (joinS s t) u) (t := s) (by rw [h, h2])]; simp
      · rw [sameS_yes (s := joinS (joinS s t) u) (t := t) (by rw [h, h2])]; simp
    · rw [sameS_yes (s := joinS (joinS s t) u) (t := u) h]; simp
  have Hx := Lib.hid hx
  have Hy := Lib.hid hy
  have Hz := Lib.hid hz
  have HOR := Lib.hid hor
  clear hx hy hz hor hL
  have hsm := SpF.same HM2.out.2.2.2.2.2.2.2.1.2 HM2.out.2.1.2
  rw [← Hx.out] at hsm
  have HJ := Lib.hid hsm
  clear hsm
  go_upto_region 20 with (first | (refine wpList_load33 rfl _ rfl g3 R3 rfl HM2.out.2.2.2.2.2.2.2.1.1 HR3.out ?_) | (refine wpList_load33 rfl _ rfl w.heap.size X rfl HM2.out.2.1.1 HS.out.1 ?_) | (go_at_call 12; (with_reducible refine HJ.out.mono ?_); rintro e m3 ⟨rfl, hk1⟩; have HM3 := Lib.hid (And.intro (HM2.out.1.trans hk1 (U := fun _ => False) (fun _ _ e => e) (fun _ _ e => e)) (And.intro (SpAt.kept HM2.out.2.1 hk1) (And.intro (SpAt.kept HM2.out.2.2.1 hk1) (And.intro (SpAt.kept HM2.out.2.2.2.1 hk1) (And.intro (SpAt.kept HM2.out.2.2.2.2.1 hk1) (And.intro (SpAt.kept HM2.out.2.2.2.2.2.1 hk1) (And.intro (SpAt.kept HM2.out.2.2.2.2.2.2.1 hk1) (And.intro (SpAt.kept HM2.out.2.2.2.2.2.2.2.1 hk1) (And.intro (SpAt.kept HM2.out.2.2.2.2.2.2.2.2.1 hk1) (SpAt.kept HM2.out.2.2.2.2.2.2.2.2.2 hk1)))))))))); clear hk1))
  clear HM2 HJ
  have hsm := SpF.same HM3.out.2.2.2.2.2.2.2.1.2 HM3.out.2.2.1.2
  rw [← Hy.out] at hsm
  have HJ := Lib.hid hsm
  clear hsm
  go_upto_region 21 with (first | (refine wpList_load33 rfl _ rfl g3 R3 rfl HM3.out.2.2.2.2.2.2.2.1.1 HR3.out ?_) | (refine wpList_load33 rfl _ rfl (w.heap.size + 1) Y rfl HM3.out.2.2.1.1 HS.out.2.1 ?_) | (go_at_call 12; (with_reducible refine HJ.out.mono ?_); rintro e m4 ⟨rfl, hk1⟩; have HM4 := Lib.hid (And.intro (HM3.out.1.trans hk1 (U := fun _ => False) (fun _ _ e => e) (fun _ _ e => e)) (And.intro (SpAt.kept HM3.out.2.1 hk1) (And.intro (SpAt.kept HM3.out.2.2.1 hk1) (And.intro (SpAt.kept HM3.out.2.2.2.1 hk1) (And.intro (SpAt.kept HM3.out.2.2.2.2.1 hk1) (And.intro (SpAt.kept HM3.out.2.2.2.2.2.1 hk1) (And.intro (SpAt.kept HM3.out.2.2.2.2.2.2.1 hk1) (And.intro (SpAt.kept HM3.out.2.2.2.2.2.2.2.1 hk1) (And.intro (SpAt.kept HM3.out.2.2.2.2.2.2.2.2.1 hk1) (SpAt.kept HM3.out.2.2.2.2.2.2.2.2.2 hk1)))))))))); clear hk1))
  clear HM3 HJ
  have hsm := SpF.same HM4.out.2.2.2.2.2.2.2.1.2 HM4.out.2.2.2.1.2
  rw [← Hz.out] at hsm
  have HJ := Lib.hid hsm
  clear hsm
  go_upto_region 22 with (first | (refine wpList_load33 rfl _ rfl g3 R3 rfl HM4.out.2.2.2.2.2.2.2.1.1 HR3.out ?_) | (refine wpList_load33 rfl _ rfl (w.heap.size + 1 + 1) Z rfl HM4.out.2.2.2.1.1 HS.out.2.2 ?_) | (go_at_call 12; (with_reducible refine HJ.out.mono ?_); rintro e m5 ⟨rfl, hk1⟩; have HM5 := Lib.hid (And.intro (HM4.out.1.trans hk1 (U := fun _ => False) (fun _ _ e => e) (fun _ _ e => e)) (And.intro (SpAt.kept HM4.out.2.1 hk1) (And.intro (SpAt.kept HM4.out.2.2.1 hk1) (And.intro (SpAt.kept HM4.out.2.2.2.1 hk1) (And.intro (SpAt.kept HM4.out.2.2.2.2.1 hk1) (And.intro (SpAt.kept HM4.out.2.2.2.2.2.1 hk1) (And.intro (SpAt.kept HM4.out.2.2.2.2.2.2.1 hk1) (And.intro (SpAt.kept HM4.out.2.2.2.2.2.2.2.1 hk1) (And.intro (SpAt.kept HM4.out.2.2.2.2.2.2.2.2.1 hk1) (SpAt.kept HM4.out.2.2.2.2.2.2.2.2.2 hk1)))))))))); clear hk1))
  clear HM4 HJ
  have c1 : 0 ≤ spnC (joinS (joinS s t) u) s := by
    have h1 := (joinS_ge s t).1
    have h2 := (joinS_ge (joinS s t) u).1
    have t1 := spnPre.turn (joinS s t) s
    have t2 := spnPre.turn (joinS (joinS s t) u) (joinS s t)
    have t3 := spnPre.turn (joinS (joinS s t) u) s
    have := spnPre.trans s (joinS s t) (joinS (joinS s t) u) (by omega) (by omega)
    omega
  have c2 : 0 ≤ spnC (joinS (joinS s t) u) t := by
    have h1 := (joinS_ge s t).2
    have h2 := (joinS_ge (joinS s t) u).1
    have t1 := spnPre.turn (joinS s t) t
    have t2 := spnPre.turn (joinS (joinS s t) u) (joinS s t)
    have t3 := spnPre.turn (joinS (joinS s t) u) t
    have := spnPre.trans t (joinS s t) (joinS (joinS s t) u) (by omega) (by omega)
    omega
  have c3 : 0 ≤ spnC (joinS (joinS s t) u) u := (joinS_ge (joinS s t) u).2
  obtain ⟨d1, hd1⟩ : ∃ c, c = spnC (joinS (joinS s t) u) s := ⟨_, rfl⟩
  obtain ⟨d2, hd2⟩ : ∃ c, c = spnC (joinS (joinS s t) u) t := ⟨_, rfl⟩
  obtain ⟨d3, hd3⟩ : ∃ c, c = spnC (joinS (joinS s t) u) u := ⟨_, rfl⟩
  rw [← hd1] at c1
  rw [← hd2] at c2
  rw [← hd3] at c3
  have hRl := HR3.out
  obtain ⟨l0, l1, l2, l3, l4, l5, l6, l7, l8, l9, l10, l11, l12, hLl⟩ := array13 hRl
  obtain ⟨x0, x1, x2, x3, x4, x5, x6, x7, x8, x9, x10, x11, x12, hLX⟩ := array13 HS.out.1
  have k1 : ∀ V, SpF V R3 (joinS (joinS s t) u) → SpF V X s → Calls Tryd.prog 13 #[.agg #[l0, l1, l2, l3, l4, l5, l6, l7, l8, l9, l10, l11, l12], .agg #[x0, x1, x2, x3, x4, x5, x6, x7, x8, x9, x10, x11, x12]] V (IntPost d1 V) := fun V h1 h2 => by rw [← hLl, ← hLX, hd1]; exact h1.compare h2
  have k2 : ∀ V, SpF V R3 (joinS (joinS s t) u) → SpF V Y t → Calls Tryd.prog 13 #[.agg #[l0, l1, l2, l3, l4, l5, l6, l7, l8, l9, l10, l11, l12], .agg #[y0, y1, y2, y3, y4, y5, y6, y7, y8, y9, y10, y11, y12]] V (IntPost d2 V) := fun V h1 h2 => by rw [← hLl, ← HLY.out, hd2]; exact h1.compare h2
  have k3 : ∀ V, SpF V R3 (joinS (joinS s t) u) → SpF V Z u → Calls Tryd.prog 13 #[.agg #[l0, l1, l2, l3, l4, l5, l6, l7, l8, l9, l10, l11, l12], .agg #[z0, z1, z2, z3, z4, z5, z6, z7, z8, z9, z10, z11, z12]] V (IntPost d3 V) := fun V h1 h2 => by rw [← hLl, ← HLZ.out, hd3]; exact h1.compare h2
  have HC := Lib.hid (And.intro k1 (And.intro k2 k3))
  have HQ1 := Lib.hid (HC.out.1 _ HM5.out.2.2.2.2.2.2.2.1.2 HM5.out.2.1.2)
  have HLL := Lib.hid hLl
  have HLX := Lib.hid hLX
  obtain ⟨p0, p1, p2, p3, p4, p5, p6, p7, p8, p9, p10, p11, p12⟩ := SpAt.cells HM5.out.2.2.2.2.2.2.2.1 l0 l1 l2 l3 l4 l5 l6 l7 l8 l9 l10 l11 l12 HLL.out
  obtain ⟨q0, q1, q2, q3, q4, q5, q6, q7, q8, q9, q10, q11, q12⟩ := SpAt.cells HM5.out.2.1 x0 x1 x2 x3 x4 x5 x6 x7 x8 x9 x10 x11 x12 HLX.out
  have hor := HOR.out
  clear k1 k2 k3 hLl hLX hRl hd1 hd2 hd3 Hx Hy Hz HOR
  have ways : x = true ∨ (x = false ∧ y = true) ∨ (x = false ∧ y = false ∧ z = true) := by revert hor; cases x <;> cases y <;> cases z <;> decide
  clear hor
  rcases ways with rfl | ⟨rfl, rfl⟩ | ⟨rfl, rfl, rfl⟩
  · as_aux_lemma =>
      go_wp2_with (first | (go_at_call 13; (with_reducible refine HQ1.out.mono ?_); rintro e o1 ⟨rfl, hk1⟩; have HP1 := Lib.hid (And.intro (HM5.out.1.trans hk1 (U := fun _ => False) (fun _ _ e => e) (fun _ _ e => e)) (And.intro (SpAt.kept HM5.out.2.1 hk1) (And.intro (SpAt.kept HM5.out.2.2.1 hk1) (And.intro (SpAt.kept HM5.out.2.2.2.1 hk1) (And.intro (SpAt.kept HM5.out.2.2.2.2.1 hk1) (And.intro (SpAt.kept HM5.out.2.2.2.2.2.1 hk1) (And.intro (SpAt.kept HM5.out.2.2.2.2.2.2.1 hk1) (And.intro (SpAt.kept HM5.out.2.2.2.2.2.2.2.1 hk1) (And.intro (SpAt.kept HM5.out.2.2.2.2.2.2.2.2.1 hk1) (SpAt.kept HM5.out.2.2.2.2.2.2.2.2.2 hk1)))))))))); have HQ2 := Lib.hid (HC.out.2.1 _ HP1.out.2.2.2.2.2.2.2.1.2 HP1.out.2.2.1.2); clear hk1 p0 p1 p2 p3 p4 p5 p6 p7 p8 p9 p10 p11 p12 q0 q1 q2 q3 q4 q5 q6 q7 q8 q9 q10 q11 q12; obtain ⟨p0, p1, p2, p3, p4, p5, p6, p7, p8, p9, p10, p11, p12⟩ := SpAt.cells HP1.out.2.2.2.2.2.2.2.1 l0 l1 l2 l3 l4 l5 l6 l7 l8 l9 l10 l11 l12 HLL.out; obtain ⟨q0, q1, q2, q3, q4, q5, q6, q7, q8, q9, q10, q11, q12⟩ := SpAt.cells HP1.out.2.2.1 y0 y1 y2 y3 y4 y5 y6 y7 y8 y9 y10 y11 y12 HLY.out) | (go_at_call 13; (with_reducible refine HQ2.out.mono ?_); rintro e o2 ⟨rfl, hk1⟩; have HP2 := Lib.hid (And.intro (HP1.out.1.trans hk1 (U := fun _ => False) (fun _ _ e => e) (fun _ _ e => e)) (And.intro (SpAt.kept HP1.out.2.1 hk1) (And.intro (SpAt.kept HP1.out.2.2.1 hk1) (And.intro (SpAt.kept HP1.out.2.2.2.1 hk1) (And.intro (SpAt.kept HP1.out.2.2.2.2.1 hk1) (And.intro (SpAt.kept HP1.out.2.2.2.2.2.1 hk1) (And.intro (SpAt.kept HP1.out.2.2.2.2.2.2.1 hk1) (And.intro (SpAt.kept HP1.out.2.2.2.2.2.2.2.1 hk1) (And.intro (SpAt.kept HP1.out.2.2.2.2.2.2.2.2.1 hk1) (SpAt.kept HP1.out.2.2.2.2.2.2.2.2.2 hk1)))))))))); have HQ3 := Lib.hid (HC.out.2.2 _ HP2.out.2.2.2.2.2.2.2.1.2 HP2.out.2.2.2.1.2); clear hk1 p0 p1 p2 p3 p4 p5 p6 p7 p8 p9 p10 p11 p12 q0 q1 q2 q3 q4 q5 q6 q7 q8 q9 q10 q11 q12; obtain ⟨p0, p1, p2, p3, p4, p5, p6, p7, p8, p9, p10, p11, p12⟩ := SpAt.cells HP2.out.2.2.2.2.2.2.2.1 l0 l1 l2 l3 l4 l5 l6 l7 l8 l9 l10 l11 l12 HLL.out; obtain ⟨q0, q1, q2, q3, q4, q5, q6, q7, q8, q9, q10, q11, q12⟩ := SpAt.cells HP2.out.2.2.2.1 z0 z1 z2 z3 z4 z5 z6 z7 z8 z9 z10 z11 z12 HLZ.out) | (go_at_call 13; (with_reducible refine HQ3.out.mono ?_); rintro e o3 ⟨rfl, hk1⟩; have HP3 := Lib.hid (HP2.out.1.trans hk1 (U := fun _ => False) (fun _ _ e => e) (fun _ _ e => e)); clear hk1 p0 p1 p2 p3 p4 p5 p6 p7 p8 p9 p10 p11 p12 q0 q1 q2 q3 q4 q5 q6 q7 q8 q9 q10 q11 q12))
      go_ret
      exact ⟨rfl, HP3.out⟩
  · as_aux_lemma =>
      go_wp2_with (first | (go_at_call 13; (with_reducible refine HQ1.out.mono ?_); rintro e o1 ⟨rfl, hk1⟩; have HP1 := Lib.hid (And.intro (HM5.out.1.trans hk1 (U := fun _ => False) (fun _ _ e => e) (fun _ _ e => e)) (And.intro (SpAt.kept HM5.out.2.1 hk1) (And.intro (SpAt.kept HM5.out.2.2.1 hk1) (And.intro (SpAt.kept HM5.out.2.2.2.1 hk1) (And.intro (SpAt.kept HM5.out.2.2.2.2.1 hk1) (And.intro (SpAt.kept HM5.out.2.2.2.2.2.1 hk1) (And.intro (SpAt.kept HM5.out.2.2.2.2.2.2.1 hk1) (And.intro (SpAt.kept HM5.out.2.2.2.2.2.2.2.1 hk1) (And.intro (SpAt.kept HM5.out.2.2.2.2.2.2.2.2.1 hk1) (SpAt.kept HM5.out.2.2.2.2.2.2.2.2.2 hk1)))))))))); have HQ2 := Lib.hid (HC.out.2.1 _ HP1.out.2.2.2.2.2.2.2.1.2 HP1.out.2.2.1.2); clear hk1 p0 p1 p2 p3 p4 p5 p6 p7 p8 p9 p10 p11 p12 q0 q1 q2 q3 q4 q5 q6 q7 q8 q9 q10 q11 q12; obtain ⟨p0, p1, p2, p3, p4, p5, p6, p7, p8, p9, p10, p11, p12⟩ := SpAt.cells HP1.out.2.2.2.2.2.2.2.1 l0 l1 l2 l3 l4 l5 l6 l7 l8 l9 l10 l11 l12 HLL.out; obtain ⟨q0, q1, q2, q3, q4, q5, q6, q7, q8, q9, q10, q11, q12⟩ := SpAt.cells HP1.out.2.2.1 y0 y1 y2 y3 y4 y5 y6 y7 y8 y9 y10 y11 y12 HLY.out) | (go_at_call 13; (with_reducible refine HQ2.out.mono ?_); rintro e o2 ⟨rfl, hk1⟩; have HP2 := Lib.hid (And.intro (HP1.out.1.trans hk1 (U := fun _ => False) (fun _ _ e => e) (fun _ _ e => e)) (And.intro (SpAt.kept HP1.out.2.1 hk1) (And.intro (SpAt.kept HP1.out.2.2.1 hk1) (And.intro (SpAt.kept HP1.out.2.2.2.1 hk1) (And.intro (SpAt.kept HP1.out.2.2.2.2.1 hk1) (And.intro (SpAt.kept HP1.out.2.2.2.2.2.1 hk1) (And.intro (SpAt.kept HP1.out.2.2.2.2.2.2.1 hk1) (And.intro (SpAt.kept HP1.out.2.2.2.2.2.2.2.1 hk1) (And.intro (SpAt.kept HP1.out.2.2.2.2.2.2.2.2.1 hk1) (SpAt.kept HP1.out.2.2.2.2.2.2.2.2.2 hk1)))))))))); have HQ3 := Lib.hid (HC.out.2.2 _ HP2.out.2.2.2.2.2.2.2.1.2 HP2.out.2.2.2.1.2); clear hk1 p0 p1 p2 p3 p4 p5 p6 p7 p8 p9 p10 p11 p12 q0 q1 q2 q3 q4 q5 q6 q7 q8 q9 q10 q11 q12; obtain ⟨p0, p1, p2, p3, p4, p5, p6, p7, p8, p9, p10, p11, p12⟩ := SpAt.cells HP2.out.2.2.2.2.2.2.2.1 l0 l1 l2 l3 l4 l5 l6 l7 l8 l9 l10 l11 l12 HLL.out; obtain ⟨q0, q1, q2, q3, q4, q5, q6, q7, q8, q9, q10, q11, q12⟩ := SpAt.cells HP2.out.2.2.2.1 z0 z1 z2 z3 z4 z5 z6 z7 z8 z9 z10 z11 z12 HLZ.out) | (go_at_call 13; (with_reducible refine HQ3.out.mono ?_); rintro e o3 ⟨rfl, hk1⟩; have HP3 := Lib.hid (HP2.out.1.trans hk1 (U := fun _ => False) (fun _ _ e => e) (fun _ _ e => e)); clear hk1 p0 p1 p2 p3 p4 p5 p6 p7 p8 p9 p10 p11 p12 q0 q1 q2 q3 q4 q5 q6 q7 q8 q9 q10 q11 q12))
      go_ret
      exact ⟨rfl, HP3.out⟩
  · as_aux_lemma =>
      go_wp2_with (first | (go_at_call 13; (with_reducible refine HQ1.out.mono ?_); rintro e o1 ⟨rfl, hk1⟩; have HP1 := Lib.hid (And.intro (HM5.out.1.trans hk1 (U := fun _ => False) (fun _ _ e => e) (fun _ _ e => e)) (And.intro (SpAt.kept HM5.out.2.1 hk1) (And.intro (SpAt.kept HM5.out.2.2.1 hk1) (And.intro (SpAt.kept HM5.out.2.2.2.1 hk1) (And.intro (SpAt.kept HM5.out.2.2.2.2.1 hk1) (And.intro (SpAt.kept HM5.out.2.2.2.2.2.1 hk1) (And.intro (SpAt.kept HM5.out.2.2.2.2.2.2.1 hk1) (And.intro (SpAt.kept HM5.out.2.2.2.2.2.2.2.1 hk1) (And.intro (SpAt.kept HM5.out.2.2.2.2.2.2.2.2.1 hk1) (SpAt.kept HM5.out.2.2.2.2.2.2.2.2.2 hk1)))))))))); have HQ2 := Lib.hid (HC.out.2.1 _ HP1.out.2.2.2.2.2.2.2.1.2 HP1.out.2.2.1.2); clear hk1 p0 p1 p2 p3 p4 p5 p6 p7 p8 p9 p10 p11 p12 q0 q1 q2 q3 q4 q5 q6 q7 q8 q9 q10 q11 q12; obtain ⟨p0, p1, p2, p3, p4, p5, p6, p7, p8, p9, p10, p11, p12⟩ := SpAt.cells HP1.out.2.2.2.2.2.2.2.1 l0 l1 l2 l3 l4 l5 l6 l7 l8 l9 l10 l11 l12 HLL.out; obtain ⟨q0, q1, q2, q3, q4, q5, q6, q7, q8, q9, q10, q11, q12⟩ := SpAt.cells HP1.out.2.2.1 y0 y1 y2 y3 y4 y5 y6 y7 y8 y9 y10 y11 y12 HLY.out) | (go_at_call 13; (with_reducible refine HQ2.out.mono ?_); rintro e o2 ⟨rfl, hk1⟩; have HP2 := Lib.hid (And.intro (HP1.out.1.trans hk1 (U := fun _ => False) (fun _ _ e => e) (fun _ _ e => e)) (And.intro (SpAt.kept HP1.out.2.1 hk1) (And.intro (SpAt.kept HP1.out.2.2.1 hk1) (And.intro (SpAt.kept HP1.out.2.2.2.1 hk1) (And.intro (SpAt.kept HP1.out.2.2.2.2.1 hk1) (And.intro (SpAt.kept HP1.out.2.2.2.2.2.1 hk1) (And.intro (SpAt.kept HP1.out.2.2.2.2.2.2.1 hk1) (And.intro (SpAt.kept HP1.out.2.2.2.2.2.2.2.1 hk1) (And.intro (SpAt.kept HP1.out.2.2.2.2.2.2.2.2.1 hk1) (SpAt.kept HP1.out.2.2.2.2.2.2.2.2.2 hk1)))))))))); have HQ3 := Lib.hid (HC.out.2.2 _ HP2.out.2.2.2.2.2.2.2.1.2 HP2.out.2.2.2.1.2); clear hk1 p0 p1 p2 p3 p4 p5 p6 p7 p8 p9 p10 p11 p12 q0 q1 q2 q3 q4 q5 q6 q7 q8 q9 q10 q11 q12; obtain ⟨p0, p1, p2, p3, p4, p5, p6, p7, p8, p9, p10, p11, p12⟩ := SpAt.cells HP2.out.2.2.2.2.2.2.2.1 l0 l1 l2 l3 l4 l5 l6 l7 l8 l9 l10 l11 l12 HLL.out; obtain ⟨q0, q1, q2, q3, q4, q5, q6, q7, q8, q9, q10, q11, q12⟩ := SpAt.cells HP2.out.2.2.2.1 z0 z1 z2 z3 z4 z5 z6 z7 z8 z9 z10 z11 z12 HLZ.out) | (go_at_call 13; (with_reducible refine HQ3.out.mono ?_); rintro e o3 ⟨rfl, hk1⟩; have HP3 := Lib.hid (HP2.out.1.trans hk1 (U := fun _ => False) (fun _ _ e => e) (fun _ _ e => e)); clear hk1 p0 p1 p2 p3 p4 p5 p6 p7 p8 p9 p10 p11 p12 q0 q1 q2 q3 q4 q5 q6 q7 q8 q9 q10 q11 q12))
      go_ret
      exact ⟨rfl, HP3.out⟩

end Go.Proofs.YtniigjfimggobaaDoor
