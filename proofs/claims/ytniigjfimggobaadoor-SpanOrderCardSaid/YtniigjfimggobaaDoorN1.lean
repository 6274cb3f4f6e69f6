/- SpanNames, SpanOrder (the walks). -/
import Derived.Test.YtniigjfimggobaaDoorF3
namespace Go.Proofs.YtniigjfimggobaaDoor
open Go.RowKit
set_option linter.unusedVariables false
set_option linter.unusedSimpArgs false

theorem spanNames_any (w : World) (hU : Lib.Utf8Tabs 0 1 w) : Calls Tryd.prog 3 #[] w (TruePost w) := by
  have HA := Lib.hid (awake_any w hU)
  clear hU
  go_enter Tryd.func3, Tryd.ntmps3
  go_wp2_with (go_at_call 8; (with_reducible refine HA.out.mono ?_); rintro e w1 ⟨rfl, hk1⟩; have HK := Lib.hid hk1; clear hk1)
  go_ret
  exact ⟨rfl, HK.out⟩
set_option maxHeartbeats 16000000 in
set_option maxRecDepth 100000 in
theorem spanOrder_any (s t u : Spn) (lv av ev lu au eu lx ax ex : Value) (w : World) (hs : SReads w s lv av ev) (ht : SReads w t lu au eu) (hu : SReads w u lx ax ex) (hU : Lib.Utf8Tabs 0 1 w) :
    Calls Tryd.prog 7 #[.agg (s.cells lv av ev), .agg (t.cells lu au eu), .agg (u.cells lx ax ex)] w (TruePost w) := by
  have HS := Lib.hid (And.intro hs (And.intro ht hu))
  obtain ⟨sA, sc, aA, ac, eA, ec, rfl, rfl, rfl⟩ := slices_of hs
  obtain ⟨tA, tc, bA, bc, fA, fc, rfl, rfl, rfl⟩ := slices_of ht
  obtain ⟨uA, uc, cA, cc, gA, gc, rfl, rfl, rfl⟩ := slices_of hu
  clear hs ht hu
  obtain ⟨X, hX⟩ : ∃ X, X = s.cells (.slice sA s.links.length sc) (.slice aA s.ats.length ac) (.slice eA s.evs.length ec) := ⟨_, rfl⟩
  obtain ⟨Y, hY⟩ : ∃ Y, Y = t.cells (.slice tA t.links.length tc) (.slice bA t.ats.length bc) (.slice fA t.evs.length fc) := ⟨_, rfl⟩
  obtain ⟨Z, hZ⟩ : ∃ Z, Z = u.cells (.slice uA u.links.length uc) (.slice cA u.ats.length cc) (.slice gA u.evs.length gc) := ⟨_, rfl⟩
  obtain ⟨W, hW⟩ : ∃ W, W = ((w.alloc (.cells X 33)).alloc (.cells Y 33)).alloc (.cells Z 33) := ⟨_, rfl⟩
  obtain ⟨hk, ha, hb, hc⟩ := box3 w (.cells X 33) (.cells Y 33) (.cells Z 33)
  rw [← hW] at hk ha hb hc
  have HW := Lib.hid hW.symm
  have HXYZ := Lib.hid (And.intro hX (And.intro hY hZ))
  have HSZ := Lib.hid (show X.size = 13 ∧ Y.size = 13 ∧ Z.size = 13 by rw [hX, hY, hZ]; exact ⟨rfl, rfl, rfl⟩)
  have HB := Lib.hid (And.intro hk (And.intro ha (And.intro hb hc)))
  rw [← hX, ← hY, ← hZ]
  have HAW := Lib.hid (awake_any W (Utf8Tabs.kept hU hk (fun h => h) (fun h => h)))
  obtain ⟨ab, hab⟩ : ∃ c, c = spnC s t := ⟨_, rfl⟩
  obtain ⟨bc', hbc⟩ : ∃ c, c = spnC t u := ⟨_, rfl⟩
  obtain ⟨ac', hac⟩ : ∃ c, c = spnC s u := ⟨_, rfl⟩
  have hba : spnC t s = -ab := by rw [hab]; have := spnPre.turn s t; omega
  have haa : spnC s s = 0 := spnPre.self s
  have cXY : ∀ V, Kept (fun _ => False) w V → Calls Tryd.prog 13 #[.agg X, .agg Y] V (IntPost ab V) := fun V hk => by rw [hX, hY, hab]; exact compare_any s t _ _ _ _ _ _ V (HS.out.1.kept hk) (HS.out.2.1.kept hk)
  have cYX : ∀ V, Kept (fun _ => False) w V → Calls Tryd.prog 13 #[.agg Y, .agg X] V (IntPost (-ab) V) := fun V hk => by rw [hX, hY, ← hba]; exact compare_any t s _ _ _ _ _ _ V (HS.out.2.1.kept hk) (HS.out.1.kept hk)
  have cYZ : ∀ V, Kept (fun _ => False) w V → Calls Tryd.prog 13 #[.agg Y, .agg Z] V (IntPost bc' V) := fun V hk => by rw [hZ, hY, hbc]; exact compare_any t u _ _ _ _ _ _ V (HS.out.2.1.kept hk) (HS.out.2.2.kept hk)
  have cXZ : ∀ V, Kept (fun _ => False) w V → Calls Tryd.prog 13 #[.agg X, .agg Z] V (IntPost ac' V) := fun V hk => by rw [hZ, hX, hac]; exact compare_any s u _ _ _ _ _ _ V (HS.out.1.kept hk) (HS.out.2.2.kept hk)
  have cXX : ∀ V, Kept (fun _ => False) w V → Calls Tryd.prog 13 #[.agg #[.int .u64 s.hi, .int .u64 s.lo, .int .u64 s.id, .int .u64 s.par, .slice sA s.links.length sc, .string s.svc, .string s.op, .int .i64 s.kind, .int .i64 s.st, .int .i64 s.start, .int .i64 s.fin, .slice aA s.ats.length ac, .slice eA s.evs.length ec], .agg #[.int .u64 s.hi, .int .u64 s.lo, .int .u64 s.id, .int .u64 s.par, .slice sA s.links.length sc, .string s.svc, .string s.op, .int .i64 s.kind, .int .i64 s.st, .int .i64 s.start, .int .i64 s.fin, .slice aA s.ats.length ac, .slice eA s.evs.length ec]] V (IntPost 0 V) := fun V hk => by rw [← haa]; exact compare_any s s _ _ _ _ _ _ V (HS.out.1.kept hk) (HS.out.1.kept hk)
  obtain ⟨is, his⟩ : ∃ b : Bool, b = decide (ab = 0) := ⟨_, rfl⟩
  have cSame : ∀ V, Kept (fun _ => False) w V → Calls Tryd.prog 12 #[.agg X, .agg Y] V (BoolPost is V) := fun V hk => by rw [hX, hY, his, hab]; exact same_any s t _ _ _ _ _ _ V (HS.out.1.kept hk) (HS.out.2.1.kept hk)
  have cEq : ∀ V, Kept (fun _ => False) w V → Calls Tryd.prog 16 #[.agg #[.int .u64 s.hi, .int .u64 s.lo, .int .u64 s.id, .int .u64 s.par, .slice sA s.links.length sc, .string s.svc, .string s.op, .int .i64 s.kind, .int .i64 s.st, .int .i64 s.start, .int .i64 s.fin, .slice aA s.ats.length ac, .slice eA s.evs.length ec], .agg #[.int .u64 t.hi, .int .u64 t.lo, .int .u64 t.id, .int .u64 t.par, .slice tA t.links.length tc, .string t.svc, .string t.op, .int .i64 t.kind, .int .i64 t.st, .int .i64 t.start, .int .i64 t.fin, .slice bA t.ats.length bc, .slice fA t.evs.length fc]] V (BoolPost is V) := fun V hk => by rw [his, hab]; exact equal_any s t _ _ _ _ _ _ V (HS.out.1.kept hk) (HS.out.2.1.kept hk)
  have HC := Lib.hid (And.intro cXY (And.intro cYX (And.intro cYZ (And.intro cXZ (And.intro cXX (And.intro cSame cEq))))))
  have u1 := And.intro (spnPre.lo s t) (spnPre.hi s t)
  have u2 := And.intro (spnPre.lo t u) (spnPre.hi t u)
  have u3 := And.intro (spnPre.lo s u) (spnPre.hi s u)
  have p1 := spnPre.trans s t u
  have p2 := spnPre.trans u t s
  have q1 := spnPre.turn s t
  have q2 := spnPre.turn t u
  have q3 := spnPre.turn s u
  have l1 : ab = 0 → ac' = bc' := fun h => by rw [hac, hbc]; exact spnPre.alike (by rw [← hab]; exact h) u
  have l2 : bc' = 0 → ac' = ab := fun h => by
    have := spnPre.alike (a := t) (b := u) (by rw [← hbc]; exact h) s
    rw [hac, hab]; omega
  rw [← hab] at u1 p1 q1
  rw [← hbc] at u2 p1 q2
  rw [← hac] at u3 p1 q3
  have hfacts : (-1 ≤ ab ∧ ab ≤ 1) ∧ (-1 ≤ bc' ∧ bc' ≤ 1) ∧ (-1 ≤ ac' ∧ ac' ≤ 1) ∧ (ab ≤ 0 → bc' ≤ 0 → ac' ≤ 0) ∧ (0 ≤ ab → 0 ≤ bc' → 0 ≤ ac') ∧ (ab = 0 → ac' = bc') ∧ (bc' = 0 → ac' = ab) ∧ (ab < 0 → bc' < 0 → ac' ≠ 0) ∧ (0 < ab → 0 < bc' → ac' ≠ 0) := by
    have r1 : ac' = 0 → spnC t s = spnC t u := fun h => by
      have h2 := spnPre.alike (a := s) (b := u) (by rw [← hac]; exact h) t
      have h3 := spnPre.turn u t
      omega
    refine ⟨by omega, by omega, by omega, by omega, by omega, l1, l2, fun h1 h2 h3 => ?_, fun h1 h2 h3 => ?_⟩
    · have := r1 h3; omega
    · have := r1 h3; omega
  have HF := Lib.hid hfacts
  have b0 : ab = 0 ∨ ¬ ab = 0 := Decidable.em _
  have f1 : (ab < -1) = False := eq_false (by omega)
  have f2 : (1 < ab) = False := eq_false (by omega)
  have f3 : ((ab == 0) = is) = True := eq_true (by rw [his]; by_cases h : ab = 0 <;> simp [h])
  have f3b : ((ab == 0) == is) = true := by rw [beq_iff_eq]; exact of_eq_true f3
  have f3c : (!((ab == 0) == is)) = false := by rw [f3b]; rfl
  have f4 : (is != is) = false := by cases is <;> rfl
  have f5 : (-1 : Int) ≤ ab := by omega
  have f6 : ab ≤ 1 := by omega
  clear hX hY hZ hW hk ha hb hc hU hab hbc hac hba haa cXY cYX cYZ cXZ cXX cSame cEq his u1 u2 u3 p1 p2 q1 q2 q3 l1 l2 hfacts b0
  go_enter Tryd.func7, Tryd.ntmps7
  go_upto_region 1 with fail
  rw [HW.out]
  go_upto_region 2 with (go_at_call 8; (with_reducible refine HAW.out.mono ?_); rintro e w1 ⟨rfl, hk1⟩; have HK1 := Lib.hid (And.intro (HB.out.1.trans hk1 (U := fun _ => False) (fun _ _ e => e) (fun _ _ e => e)) (And.intro (blk_kept hk1 HB.out.2.1 (fun h => h)) (And.intro (blk_kept hk1 HB.out.2.2.1 (fun h => h)) (blk_kept hk1 HB.out.2.2.2 (fun h => h))))); clear hk1)
  go_upto_region 3 with (first | (refine wpList_load33 rfl _ rfl w.heap.size X rfl HK1.out.2.1 HSZ.out.1 ?_) | (refine wpList_load33 rfl _ rfl (w.heap.size + 1) Y rfl HK1.out.2.2.1 HSZ.out.2.1 ?_) | (refine wpList_load33 rfl _ rfl (w.heap.size + 1 + 1) Z rfl HK1.out.2.2.2 HSZ.out.2.2 ?_) | (go_at_call 13; (with_reducible refine (HC.out.1 _ HK1.out.1).mono ?_); rintro e w2 ⟨rfl, hk1⟩; have HK2 := Lib.hid (And.intro (HK1.out.1.trans hk1 (U := fun _ => False) (fun _ _ e => e) (fun _ _ e => e)) (And.intro (blk_kept hk1 HK1.out.2.1 (fun h => h)) (And.intro (blk_kept hk1 HK1.out.2.2.1 (fun h => h)) (blk_kept hk1 HK1.out.2.2.2 (fun h => h))))); clear hk1))
  clear HK1
  go_upto_region 4 with (first | (refine wpList_load33 rfl _ rfl w.heap.size X rfl HK2.out.2.1 HSZ.out.1 ?_) | (refine wpList_load33 rfl _ rfl (w.heap.size + 1) Y rfl HK2.out.2.2.1 HSZ.out.2.1 ?_) | (refine wpList_load33 rfl _ rfl (w.heap.size + 1 + 1) Z rfl HK2.out.2.2.2 HSZ.out.2.2 ?_) | (go_at_call 13; (with_reducible refine (HC.out.2.1 _ HK2.out.1).mono ?_); rintro e w3 ⟨rfl, hk1⟩; have HK3 := Lib.hid (And.intro (HK2.out.1.trans hk1 (U := fun _ => False) (fun _ _ e => e) (fun _ _ e => e)) (And.intro (blk_kept hk1 HK2.out.2.1 (fun h => h)) (And.intro (blk_kept hk1 HK2.out.2.2.1 (fun h => h)) (blk_kept hk1 HK2.out.2.2.2 (fun h => h))))); clear hk1))
  clear HK2
  go_upto_region 5 with (first | (refine wpList_load33 rfl _ rfl w.heap.size X rfl HK3.out.2.1 HSZ.out.1 ?_) | (refine wpList_load33 rfl _ rfl (w.heap.size + 1) Y rfl HK3.out.2.2.1 HSZ.out.2.1 ?_) | (refine wpList_load33 rfl _ rfl (w.heap.size + 1 + 1) Z rfl HK3.out.2.2.2 HSZ.out.2.2 ?_) | (go_at_call 13; (with_reducible refine (HC.out.2.2.1 _ HK3.out.1).mono ?_); rintro e w4 ⟨rfl, hk1⟩; have HK4 := Lib.hid (And.intro (HK3.out.1.trans hk1 (U := fun _ => False) (fun _ _ e => e) (fun _ _ e => e)) (And.intro (blk_kept hk1 HK3.out.2.1 (fun h => h)) (And.intro (blk_kept hk1 HK3.out.2.2.1 (fun h => h)) (blk_kept hk1 HK3.out.2.2.2 (fun h => h))))); clear hk1))
  clear HK3
  go_upto_region 6 with (first | (refine wpList_load33 rfl _ rfl w.heap.size X rfl HK4.out.2.1 HSZ.out.1 ?_) | (refine wpList_load33 rfl _ rfl (w.heap.size + 1) Y rfl HK4.out.2.2.1 HSZ.out.2.1 ?_) | (refine wpList_load33 rfl _ rfl (w.heap.size + 1 + 1) Z rfl HK4.out.2.2.2 HSZ.out.2.2 ?_) | (go_at_call 13; (with_reducible refine (HC.out.2.2.2.1 _ HK4.out.1).mono ?_); rintro e w5 ⟨rfl, hk1⟩; have HK5 := Lib.hid (And.intro (HK4.out.1.trans hk1 (U := fun _ => False) (fun _ _ e => e) (fun _ _ e => e)) (And.intro (blk_kept hk1 HK4.out.2.1 (fun h => h)) (And.intro (blk_kept hk1 HK4.out.2.2.1 (fun h => h)) (blk_kept hk1 HK4.out.2.2.2 (fun h => h))))); clear hk1))
  clear HK4
  go_upto_region 7 with (first | (refine wpList_load33 rfl _ rfl w.heap.size X rfl HK5.out.2.1 HSZ.out.1 ?_) | (refine wpList_load33 rfl _ rfl (w.heap.size + 1) Y rfl HK5.out.2.2.1 HSZ.out.2.1 ?_) | (refine wpList_load33 rfl _ rfl (w.heap.size + 1 + 1) Z rfl HK5.out.2.2.2 HSZ.out.2.2 ?_) | (go_at_call 12; (with_reducible refine (HC.out.2.2.2.2.2.1 _ HK5.out.1).mono ?_); rintro e w6 ⟨rfl, hk1⟩; have HK6 := Lib.hid (And.intro (HK5.out.1.trans hk1 (U := fun _ => False) (fun _ _ e => e) (fun _ _ e => e)) (And.intro (blk_kept hk1 HK5.out.2.1 (fun h => h)) (And.intro (blk_kept hk1 HK5.out.2.2.1 (fun h => h)) (blk_kept hk1 HK5.out.2.2.2 (fun h => h))))); clear hk1))
  clear HK5
  have hx6 : w6.heap[w.heap.size]? = some (.cells #[.int .u64 s.hi, .int .u64 s.lo, .int .u64 s.id, .int .u64 s.par, .slice sA s.links.length sc, .string s.svc, .string s.op, .int .i64 s.kind, .int .i64 s.st, .int .i64 s.start, .int .i64 s.fin, .slice aA s.ats.length ac, .slice eA s.evs.length ec] 33 (0, 0)) := by have h := HK6.out.2.1; rw [HXYZ.out.1] at h; exact h
  have hy6 : w6.heap[w.heap.size + 1]? = some (.cells #[.int .u64 t.hi, .int .u64 t.lo, .int .u64 t.id, .int .u64 t.par, .slice tA t.links.length tc, .string t.svc, .string t.op, .int .i64 t.kind, .int .i64 t.st, .int .i64 t.start, .int .i64 t.fin, .slice bA t.ats.length bc, .slice fA t.evs.length fc] 33 (0, 0)) := by have h := HK6.out.2.2.1; rw [HXYZ.out.2.1] at h; exact h
  have p0 : w6.cell? ⟨w.heap.size, 0, none⟩ = some (.int .u64 s.hi) := (blk_cell hx6 0).trans rfl
  have p1 : w6.cell? ⟨w.heap.size, 1, none⟩ = some (.int .u64 s.lo) := (blk_cell hx6 1).trans rfl
  have p2 : w6.cell? ⟨w.heap.size, 2, none⟩ = some (.int .u64 s.id) := (blk_cell hx6 2).trans rfl
  have p3 : w6.cell? ⟨w.heap.size, 3, none⟩ = some (.int .u64 s.par) := (blk_cell hx6 3).trans rfl
  have p4 : w6.cell? ⟨w.heap.size, 4, none⟩ = some (.slice sA s.links.length sc) := (blk_cell hx6 4).trans rfl
  have p5 : w6.cell? ⟨w.heap.size, 5, none⟩ = some (.string s.svc) := (blk_cell hx6 5).trans rfl
  have p6 : w6.cell? ⟨w.heap.size, 6, none⟩ = some (.string s.op) := (blk_cell hx6 6).trans rfl
  have p7 : w6.cell? ⟨w.heap.size, 7, none⟩ = some (.int .i64 s.kind) := (blk_cell hx6 7).trans rfl
  have p8 : w6.cell? ⟨w.heap.size, 8, none⟩ = some (.int .i64 s.st) := (blk_cell hx6 8).trans rfl
  have p9 : w6.cell? ⟨w.heap.size, 9, none⟩ = some (.int .i64 s.start) := (blk_cell hx6 9).trans rfl
  have p10 : w6.cell? ⟨w.heap.size, 10, none⟩ = some (.int .i64 s.fin) := (blk_cell hx6 10).trans rfl
  have p11 : w6.cell? ⟨w.heap.size, 11, none⟩ = some (.slice aA s.ats.length ac) := (blk_cell hx6 11).trans rfl
  have p12 : w6.cell? ⟨w.heap.size, 12, none⟩ = some (.slice eA s.evs.length ec) := (blk_cell hx6 12).trans rfl
  have q0 : w6.cell? ⟨w.heap.size + 1, 0, none⟩ = some (.int .u64 t.hi) := (blk_cell hy6 0).trans rfl
  have q1 : w6.cell? ⟨w.heap.size + 1, 1, none⟩ = some (.int .u64 t.lo) := (blk_cell hy6 1).trans rfl
  have q2 : w6.cell? ⟨w.heap.size + 1, 2, none⟩ = some (.int .u64 t.id) := (blk_cell hy6 2).trans rfl
  have q3 : w6.cell? ⟨w.heap.size + 1, 3, none⟩ = some (.int .u64 t.par) := (blk_cell hy6 3).trans rfl
  have q4 : w6.cell? ⟨w.heap.size + 1, 4, none⟩ = some (.slice tA t.links.length tc) := (blk_cell hy6 4).trans rfl
  have q5 : w6.cell? ⟨w.heap.size + 1, 5, none⟩ = some (.string t.svc) := (blk_cell hy6 5).trans rfl
  have q6 : w6.cell? ⟨w.heap.size + 1, 6, none⟩ = some (.string t.op) := (blk_cell hy6 6).trans rfl
  have q7 : w6.cell? ⟨w.heap.size + 1, 7, none⟩ = some (.int .i64 t.kind) := (blk_cell hy6 7).trans rfl
  have q8 : w6.cell? ⟨w.heap.size + 1, 8, none⟩ = some (.int .i64 t.st) := (blk_cell hy6 8).trans rfl
  have q9 : w6.cell? ⟨w.heap.size + 1, 9, none⟩ = some (.int .i64 t.start) := (blk_cell hy6 9).trans rfl
  have q10 : w6.cell? ⟨w.heap.size + 1, 10, none⟩ = some (.int .i64 t.fin) := (blk_cell hy6 10).trans rfl
  have q11 : w6.cell? ⟨w.heap.size + 1, 11, none⟩ = some (.slice bA t.ats.length bc) := (blk_cell hy6 11).trans rfl
  have q12 : w6.cell? ⟨w.heap.size + 1, 12, none⟩ = some (.slice fA t.evs.length fc) := (blk_cell hy6 12).trans rfl
  have HX6 := Lib.hid hx6
  clear hx6 hy6
  go_upto_region 9 with (first | (go_at_call 16; (with_reducible refine (HC.out.2.2.2.2.2.2 _ HK6.out.1).mono ?_); rintro e w7 ⟨rfl, hk1⟩; have HK7 := Lib.hid (HK6.out.1.trans hk1 (U := fun _ => False) (fun _ _ e => e) (fun _ _ e => e)); have hx7 := blk_kept hk1 HX6.out (fun h => h); clear hk1 p0 q0 p1 q1 p2 q2 p3 q3 p4 q4 p5 q5 p6 q6 p7 q7 p8 q8 p9 q9 p10 q10 p11 q11 p12 q12; have p0 : w7.cell? ⟨w.heap.size, 0, none⟩ = some (.int .u64 s.hi) := (blk_cell hx7 0).trans rfl; have p1 : w7.cell? ⟨w.heap.size, 1, none⟩ = some (.int .u64 s.lo) := (blk_cell hx7 1).trans rfl; have p2 : w7.cell? ⟨w.heap.size, 2, none⟩ = some (.int .u64 s.id) := (blk_cell hx7 2).trans rfl; have p3 : w7.cell? ⟨w.heap.size, 3, none⟩ = some (.int .u64 s.par) := (blk_cell hx7 3).trans rfl; have p4 : w7.cell? ⟨w.heap.size, 4, none⟩ = some (.slice sA s.links.length sc) := (blk_cell hx7 4).trans rfl; have p5 : w7.cell? ⟨w.heap.size, 5, none⟩ = some (.string s.svc) := (blk_cell hx7 5).trans rfl; have p6 : w7.cell? ⟨w.heap.size, 6, none⟩ = some (.string s.op) := (blk_cell hx7 6).trans rfl; have p7 : w7.cell? ⟨w.heap.size, 7, none⟩ = some (.int .i64 s.kind) := (blk_cell hx7 7).trans rfl; have p8 : w7.cell? ⟨w.heap.size, 8, none⟩ = some (.int .i64 s.st) := (blk_cell hx7 8).trans rfl; have p9 : w7.cell? ⟨w.heap.size, 9, none⟩ = some (.int .i64 s.start) := (blk_cell hx7 9).trans rfl; have p10 : w7.cell? ⟨w.heap.size, 10, none⟩ = some (.int .i64 s.fin) := (blk_cell hx7 10).trans rfl; have p11 : w7.cell? ⟨w.heap.size, 11, none⟩ = some (.slice aA s.ats.length ac) := (blk_cell hx7 11).trans rfl; have p12 : w7.cell? ⟨w.heap.size, 12, none⟩ = some (.slice eA s.evs.length ec) := (blk_cell hx7 12).trans rfl; clear hx7) | (go_at_call 13; (with_reducible refine (HC.out.2.2.2.2.1 _ HK7.out).mono ?_); rintro e w8 ⟨rfl, hk1⟩; have HK8 := Lib.hid (HK7.out.trans hk1 (U := fun _ => False) (fun _ _ e => e) (fun _ _ e => e)); clear hk1 p0 p1 p2 p3 p4 p5 p6 p7 p8 p9 p10 p11 p12))
  clear f1 f2 f3 f3b f3c f4 f5 f6 HK6 HX6
  have hF := HF.out
  obtain ⟨v1, v2, v3, v4, v5, v6, v7, v8, v9⟩ := hF
  have c1 : ab = -1 ∨ ab = 0 ∨ ab = 1 := by omega
  have c2 : bc' = -1 ∨ bc' = 0 ∨ bc' = 1 := by omega
  have c3 : ac' = -1 ∨ ac' = 0 ∨ ac' = 1 := by omega
  clear HF
  rcases c1 with rfl | rfl | rfl <;> rcases c2 with rfl | rfl | rfl <;> rcases c3 with rfl | rfl | rfl
  all_goals first
    | (exfalso; omega)
    | (clear v1 v2 v3 v4 v5 v6 v7 v8 v9
       go_wp2_with fail
       go_ret
       exact ⟨rfl, HK8.out⟩)
end Go.Proofs.YtniigjfimggobaaDoor
