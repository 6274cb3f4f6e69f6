/- Check: what is wrong with a span (the walk). -/
import Derived.Test.YtniigjfimggobaaDoorU2
namespace Go.Proofs.YtniigjfimggobaaDoor
open Go.RowKit
set_option linter.unusedVariables false
set_option linter.unusedSimpArgs false

/-- The texts of a span have sizes. -/
structure Sized (s : Spn) : Prop where
  svc : s.svc.size ≤ 9223372036854775807
  op : s.op.size ≤ 9223372036854775807
  ats : ∀ x ∈ s.ats, x.key.size ≤ 9223372036854775807 ∧ x.t.size ≤ 9223372036854775807
  evs : ∀ x ∈ s.evs, x.n.size ≤ 9223372036854775807

set_option maxHeartbeats 16000000 in
set_option maxRecDepth 100000 in
theorem check_any (s : Spn) (lv av ev : Value) (w : World) (hs : SReads w s lv av ev) (hz : Sized s) (hU : Lib.Utf8Tabs 0 1 w) : Calls Tryd.prog 10 #[.agg (s.cells lv av ev)] w (IntPost (checkS s) w) := by
  have hs0 := hs
  obtain ⟨⟨slA, slc, rfl, -⟩, ⟨saA, sac, rfl, -⟩, ⟨seA, sec, rfl, -⟩, -, -, -⟩ := hs
  obtain ⟨X, hX⟩ : ∃ X, X = s.cells (.slice slA s.links.length slc) (.slice saA s.ats.length sac) (.slice seA s.evs.length sec) := ⟨_, rfl⟩
  obtain ⟨W, hW⟩ : ∃ W, W = (w.alloc (.cells X 33)).alloc (.cells #[.int .u64 0, .int .u64 0] 25) := ⟨_, rfl⟩
  obtain ⟨hk, ha, hb⟩ := box2 w (.cells X 33) (.cells #[.int .u64 0, .int .u64 0] 25)
  rw [← hW] at hk ha hb
  rw [hX] at ha
  have a0 : W.cell? ⟨w.heap.size, 0, none⟩ = some (.int .u64 s.hi) := (blk_cell ha 0).trans rfl
  have A0 := fun p : Later W => p.cell a0
  have a1 : W.cell? ⟨w.heap.size, 1, none⟩ = some (.int .u64 s.lo) := (blk_cell ha 1).trans rfl
  have A1 := fun p : Later W => p.cell a1
  have a2 : W.cell? ⟨w.heap.size, 2, none⟩ = some (.int .u64 s.id) := (blk_cell ha 2).trans rfl
  have A2 := fun p : Later W => p.cell a2
  have a3 : W.cell? ⟨w.heap.size, 3, none⟩ = some (.int .u64 s.par) := (blk_cell ha 3).trans rfl
  have A3 := fun p : Later W => p.cell a3
  have a4 : W.cell? ⟨w.heap.size, 4, none⟩ = some (.slice slA s.links.length slc) := (blk_cell ha 4).trans rfl
  have A4 := fun p : Later W => p.cell a4
  have a5 : W.cell? ⟨w.heap.size, 5, none⟩ = some (.string s.svc) := (blk_cell ha 5).trans rfl
  have A5 := fun p : Later W => p.cell a5
  have a6 : W.cell? ⟨w.heap.size, 6, none⟩ = some (.string s.op) := (blk_cell ha 6).trans rfl
  have A6 := fun p : Later W => p.cell a6
  have a7 : W.cell? ⟨w.heap.size, 7, none⟩ = some (.int .i64 s.kind) := (blk_cell ha 7).trans rfl
  have A7 := fun p : Later W => p.cell a7
  have a8 : W.cell? ⟨w.heap.size, 8, none⟩ = some (.int .i64 s.st) := (blk_cell ha 8).trans rfl
  have A8 := fun p : Later W => p.cell a8
  have a9 : W.cell? ⟨w.heap.size, 9, none⟩ = some (.int .i64 s.start) := (blk_cell ha 9).trans rfl
  have A9 := fun p : Later W => p.cell a9
  have a10 : W.cell? ⟨w.heap.size, 10, none⟩ = some (.int .i64 s.fin) := (blk_cell ha 10).trans rfl
  have A10 := fun p : Later W => p.cell a10
  have a11 : W.cell? ⟨w.heap.size, 11, none⟩ = some (.slice saA s.ats.length sac) := (blk_cell ha 11).trans rfl
  have A11 := fun p : Later W => p.cell a11
  have a12 : W.cell? ⟨w.heap.size, 12, none⟩ = some (.slice seA s.evs.length sec) := (blk_cell ha 12).trans rfl
  have A12 := fun p : Later W => p.cell a12
  have b0 : W.cell? ⟨w.heap.size + 1, 0, none⟩ = some (.int .u64 0) := (blk_cell hb 0).trans rfl
  have B0 := fun p : Later W => p.cell b0
  have b1 : W.cell? ⟨w.heap.size + 1, 1, none⟩ = some (.int .u64 0) := (blk_cell hb 1).trans rfl
  have B1 := fun p : Later W => p.cell b1
  have HS := Lib.hid (And.intro (hs0.kept hk) hz)
  have HU := Lib.hid (Utf8Tabs.kept hU hk (fun h => h) (fun h => h))
  have HK := Lib.hid hk
  have fix : ∀ {f : FuncId} {args : Array Value} {v : Value} {p : Later W}, (Calls Tryd.prog f args p.w' fun e w1 => e = .returned v ∧ Kept (fun _ => False) p.w' w1) → Calls Tryd.prog f args p.w' fun e w2 => e = .returned v ∧ ∃ q : Later W, w2 = q.w' := fun h => Calls.later_of h
  have cP := fun (t : ByteArray) (n fr : Nat) (ht : t.size ≤ 9223372036854775807) (hn : n ≤ 1000) (hf : fr ≤ 255) (p : Later W) => fix (plain_any t n fr p.w' ht hn hf (Utf8Tabs.kept HU.out p.kept (fun h => h) (fun h => h)))
  have cL := fun p : Later W => fix (linked_any s _ _ _ p.w' (HS.out.1.kept p.kept))
  have cA := fun p : Later W => fix (carried_any s.ats _ p.w' (HS.out.1.ats.kept p.kept) HS.out.1.a0 HS.out.2.ats (Utf8Tabs.kept HU.out p.kept (fun h => h) (fun h => h)))
  have cE := fun p : Later W => fix (told_any s.evs _ p.w' (HS.out.1.evs.kept p.kept) HS.out.1.e0 HS.out.2.evs (Utf8Tabs.kept HU.out p.kept (fun h => h) (fun h => h)))
  have HP1 : Hid (∀ p : Later W, Calls Tryd.prog 18 #[.string s.svc, .int .i64 60, .int .u8 33] p.w' fun e w2 => e = .returned (.bool (plainS s.svc 60 33)) ∧ ∃ q : Later W, w2 = q.w') := Lib.hid (cP s.svc 60 33 hz.svc (by omega) (by omega))
  have HP2 : Hid (∀ p : Later W, Calls Tryd.prog 18 #[.string s.op, .int .i64 100, .int .u8 32] p.w' fun e w2 => e = .returned (.bool (plainS s.op 100 32)) ∧ ∃ q : Later W, w2 = q.w') := Lib.hid (cP s.op 100 32 hz.op (by omega) (by omega))
  have HL : Hid (∀ p : Later W, Calls Tryd.prog 19 #[.agg #[.int .u64 s.hi, .int .u64 s.lo, .int .u64 s.id, .int .u64 s.par, .slice slA s.links.length slc, .string s.svc, .string s.op, .int .i64 s.kind, .int .i64 s.st, .int .i64 s.start, .int .i64 s.fin, .slice saA s.ats.length sac, .slice seA s.evs.length sec]] p.w' fun e w2 => e = .returned (.bool (linkedS s)) ∧ ∃ q : Later W, w2 = q.w') := Lib.hid cL
  have HL0 : Hid (s.hi = 0 → ∀ p : Later W, Calls Tryd.prog 19 #[.agg #[.int .u64 0, .int .u64 s.lo, .int .u64 s.id, .int .u64 s.par, .slice slA s.links.length slc, .string s.svc, .string s.op, .int .i64 s.kind, .int .i64 s.st, .int .i64 s.start, .int .i64 s.fin, .slice saA s.ats.length sac, .slice seA s.evs.length sec]] p.w' fun e w2 => e = .returned (.bool (linkedS s)) ∧ ∃ q : Later W, w2 = q.w') := Lib.hid (fun h0 => by have h := HL.out; rw [h0] at h; exact h)
  have HA := Lib.hid cA
  have HE := Lib.hid cE
  obtain ⟨p0, hp0⟩ : ∃ p : Later W, W = p.w' := ⟨⟨W, Kept.refl _ _⟩, rfl⟩
  have hW2 := hW.symm.trans hp0
  rw [← hX]
  have HW := Lib.hid hW2
  clear hW2 fix cP cL cA cE ha hb hs0 hk hz hU hW hX hp0 a0 a1 a2 a3 a4 a5 a6 a7 a8 a9 a10 a11 a12 b0 b1
  have hd : checkS s = if (s.hi = 0 ∧ s.lo = 0) ∨ s.id = 0 then 41 else if s.start < 0 ∨ s.fin < s.start ∨ 4611686018427387904 < s.fin then 42 else if plainS s.svc 60 33 = false ∨ plainS s.op 100 32 = false then 43 else if s.kind < 0 ∨ 4 < s.kind ∨ s.st < 0 ∨ 2 < s.st then 44 else if linkedS s = false then 45 else if carriedS s.ats = false then 46 else if toldS s.evs = false then 47 else 0 := rfl
  by_cases n1 : s.hi = 0 ∧ s.lo = 0
  case pos =>
    have HO := Lib.hid (show checkS s = 41 by rw [hd]; simp [n1])
    clear hd
    go_enter Tryd.func10, Tryd.ntmps10
    go_upto_region 2 with fail
    rw [HW.out]
    go_wp2_with (first | (go_at_call 18; first | (with_reducible refine (HP1.out _).mono ?_); rintro e w' ⟨rfl, q, rfl⟩ | (with_reducible refine (HP2.out _).mono ?_); rintro e w' ⟨rfl, q, rfl⟩) | (go_at_call 19; first | (with_reducible refine (HL.out _).mono ?_); rintro e w' ⟨rfl, q, rfl⟩ | (with_reducible refine (HL0.out (by assumption) _).mono ?_); rintro e w' ⟨rfl, q, rfl⟩) | (go_at_call 20; with_reducible refine (HA.out _).mono ?_; rintro e w' ⟨rfl, q, rfl⟩) | (go_at_call 21; with_reducible refine (HE.out _).mono ?_; rintro e w' ⟨rfl, q, rfl⟩))
    all_goals (go_ret; exact ⟨by rw [HO.out]; rfl, Later.old _ HK.out⟩)
  have fn1 : (s.hi = 0 ∧ s.lo = 0) = False := eq_false n1
  by_cases n2 : s.id = 0
  case pos =>
    have fn2 : ((s.id : Int) == 0) = true := by rw [n2]; rfl
    have HO := Lib.hid (show checkS s = 41 by rw [hd]; simp [n1, n2])
    clear hd
    go_enter Tryd.func10, Tryd.ntmps10
    go_upto_region 2 with fail
    rw [HW.out]
    go_wp2_with (first | (go_at_call 18; first | (with_reducible refine (HP1.out _).mono ?_); rintro e w' ⟨rfl, q, rfl⟩ | (with_reducible refine (HP2.out _).mono ?_); rintro e w' ⟨rfl, q, rfl⟩) | (go_at_call 19; first | (with_reducible refine (HL.out _).mono ?_); rintro e w' ⟨rfl, q, rfl⟩ | (with_reducible refine (HL0.out (by assumption) _).mono ?_); rintro e w' ⟨rfl, q, rfl⟩) | (go_at_call 20; with_reducible refine (HA.out _).mono ?_; rintro e w' ⟨rfl, q, rfl⟩) | (go_at_call 21; with_reducible refine (HE.out _).mono ?_; rintro e w' ⟨rfl, q, rfl⟩))
    all_goals (go_ret; exact ⟨by rw [HO.out]; rfl, Later.old _ HK.out⟩)
  have fn2 : ((s.id : Int) == 0) = false := by simp; omega
  by_cases n3 : s.start < 0
  case pos =>
    have fn3 : (s.start < 0) = True := eq_true n3
    have HO := Lib.hid (show checkS s = 42 by rw [hd]; simp [n1, n2, n3])
    clear hd
    go_enter Tryd.func10, Tryd.ntmps10
    go_upto_region 2 with fail
    rw [HW.out]
    go_wp2_with (first | (go_at_call 18; first | (with_reducible refine (HP1.out _).mono ?_); rintro e w' ⟨rfl, q, rfl⟩ | (with_reducible refine (HP2.out _).mono ?_); rintro e w' ⟨rfl, q, rfl⟩) | (go_at_call 19; first | (with_reducible refine (HL.out _).mono ?_); rintro e w' ⟨rfl, q, rfl⟩ | (with_reducible refine (HL0.out (by assumption) _).mono ?_); rintro e w' ⟨rfl, q, rfl⟩) | (go_at_call 20; with_reducible refine (HA.out _).mono ?_; rintro e w' ⟨rfl, q, rfl⟩) | (go_at_call 21; with_reducible refine (HE.out _).mono ?_; rintro e w' ⟨rfl, q, rfl⟩))
    all_goals (go_ret; exact ⟨by rw [HO.out]; rfl, Later.old _ HK.out⟩)
  have fn3 : (s.start < 0) = False := eq_false n3
  by_cases n4 : s.fin < s.start
  case pos =>
    have fn4 : (s.fin < s.start) = True := eq_true n4
    have HO := Lib.hid (show checkS s = 42 by rw [hd]; simp [n1, n2, n3, n4])
    clear hd
    go_enter Tryd.func10, Tryd.ntmps10
    go_upto_region 2 with fail
    rw [HW.out]
    go_wp2_with (first | (go_at_call 18; first | (with_reducible refine (HP1.out _).mono ?_); rintro e w' ⟨rfl, q, rfl⟩ | (with_reducible refine (HP2.out _).mono ?_); rintro e w' ⟨rfl, q, rfl⟩) | (go_at_call 19; first | (with_reducible refine (HL.out _).mono ?_); rintro e w' ⟨rfl, q, rfl⟩ | (with_reducible refine (HL0.out (by assumption) _).mono ?_); rintro e w' ⟨rfl, q, rfl⟩) | (go_at_call 20; with_reducible refine (HA.out _).mono ?_; rintro e w' ⟨rfl, q, rfl⟩) | (go_at_call 21; with_reducible refine (HE.out _).mono ?_; rintro e w' ⟨rfl, q, rfl⟩))
    all_goals (go_ret; exact ⟨by rw [HO.out]; rfl, Later.old _ HK.out⟩)
  have fn4 : (s.fin < s.start) = False := eq_false n4
  by_cases n5 : 4611686018427387904 < s.fin
  case pos =>
    have fn5 : ((4611686018427387904 : Int) < s.fin) = True := eq_true n5
    have HO := Lib.hid (show checkS s = 42 by rw [hd]; simp [n1, n2, n3, n4, n5])
    clear hd
    go_enter Tryd.func10, Tryd.ntmps10
    go_upto_region 2 with fail
    rw [HW.out]
    go_wp2_with (first | (go_at_call 18; first | (with_reducible refine (HP1.out _).mono ?_); rintro e w' ⟨rfl, q, rfl⟩ | (with_reducible refine (HP2.out _).mono ?_); rintro e w' ⟨rfl, q, rfl⟩) | (go_at_call 19; first | (with_reducible refine (HL.out _).mono ?_); rintro e w' ⟨rfl, q, rfl⟩ | (with_reducible refine (HL0.out (by assumption) _).mono ?_); rintro e w' ⟨rfl, q, rfl⟩) | (go_at_call 20; with_reducible refine (HA.out _).mono ?_; rintro e w' ⟨rfl, q, rfl⟩) | (go_at_call 21; with_reducible refine (HE.out _).mono ?_; rintro e w' ⟨rfl, q, rfl⟩))
    all_goals (go_ret; exact ⟨by rw [HO.out]; rfl, Later.old _ HK.out⟩)
  have fn5 : ((4611686018427387904 : Int) < s.fin) = False := eq_false n5
  by_cases n6 : plainS s.svc 60 33 = false
  case pos =>
    rw [n6] at HP1
    have HO := Lib.hid (show checkS s = 43 by rw [hd]; simp [n1, n2, n3, n4, n5, n6])
    clear n6
    clear hd
    go_enter Tryd.func10, Tryd.ntmps10
    go_upto_region 2 with fail
    rw [HW.out]
    go_wp2_with (first | (go_at_call 18; first | (with_reducible refine (HP1.out _).mono ?_); rintro e w' ⟨rfl, q, rfl⟩ | (with_reducible refine (HP2.out _).mono ?_); rintro e w' ⟨rfl, q, rfl⟩) | (go_at_call 19; first | (with_reducible refine (HL.out _).mono ?_); rintro e w' ⟨rfl, q, rfl⟩ | (with_reducible refine (HL0.out (by assumption) _).mono ?_); rintro e w' ⟨rfl, q, rfl⟩) | (go_at_call 20; with_reducible refine (HA.out _).mono ?_; rintro e w' ⟨rfl, q, rfl⟩) | (go_at_call 21; with_reducible refine (HE.out _).mono ?_; rintro e w' ⟨rfl, q, rfl⟩))
    all_goals (go_ret; exact ⟨by rw [HO.out]; rfl, Later.old _ HK.out⟩)
  have hn6 := Bool.of_not_eq_false n6
  rw [hn6] at HP1
  by_cases n7 : plainS s.op 100 32 = false
  case pos =>
    rw [n7] at HP2
    have HO := Lib.hid (show checkS s = 43 by rw [hd]; simp [n1, n2, n3, n4, n5, hn6, n7])
    clear n7
    clear hd
    go_enter Tryd.func10, Tryd.ntmps10
    go_upto_region 2 with fail
    rw [HW.out]
    go_wp2_with (first | (go_at_call 18; first | (with_reducible refine (HP1.out _).mono ?_); rintro e w' ⟨rfl, q, rfl⟩ | (with_reducible refine (HP2.out _).mono ?_); rintro e w' ⟨rfl, q, rfl⟩) | (go_at_call 19; first | (with_reducible refine (HL.out _).mono ?_); rintro e w' ⟨rfl, q, rfl⟩ | (with_reducible refine (HL0.out (by assumption) _).mono ?_); rintro e w' ⟨rfl, q, rfl⟩) | (go_at_call 20; with_reducible refine (HA.out _).mono ?_; rintro e w' ⟨rfl, q, rfl⟩) | (go_at_call 21; with_reducible refine (HE.out _).mono ?_; rintro e w' ⟨rfl, q, rfl⟩))
    all_goals (go_ret; exact ⟨by rw [HO.out]; rfl, Later.old _ HK.out⟩)
  have hn7 := Bool.of_not_eq_false n7
  rw [hn7] at HP2
  by_cases n8 : s.kind < 0
  case pos =>
    have fn8 : (s.kind < 0) = True := eq_true n8
    have HO := Lib.hid (show checkS s = 44 by rw [hd]; simp [n1, n2, n3, n4, n5, hn6, hn7, n8])
    clear hd
    go_enter Tryd.func10, Tryd.ntmps10
    go_upto_region 2 with fail
    rw [HW.out]
    go_wp2_with (first | (go_at_call 18; first | (with_reducible refine (HP1.out _).mono ?_); rintro e w' ⟨rfl, q, rfl⟩ | (with_reducible refine (HP2.out _).mono ?_); rintro e w' ⟨rfl, q, rfl⟩) | (go_at_call 19; first | (with_reducible refine (HL.out _).mono ?_); rintro e w' ⟨rfl, q, rfl⟩ | (with_reducible refine (HL0.out (by assumption) _).mono ?_); rintro e w' ⟨rfl, q, rfl⟩) | (go_at_call 20; with_reducible refine (HA.out _).mono ?_; rintro e w' ⟨rfl, q, rfl⟩) | (go_at_call 21; with_reducible refine (HE.out _).mono ?_; rintro e w' ⟨rfl, q, rfl⟩))
    all_goals (go_ret; exact ⟨by rw [HO.out]; rfl, Later.old _ HK.out⟩)
  have fn8 : (s.kind < 0) = False := eq_false n8
  by_cases n9 : 4 < s.kind
  case pos =>
    have fn9 : ((4 : Int) < s.kind) = True := eq_true n9
    have HO := Lib.hid (show checkS s = 44 by rw [hd]; simp [n1, n2, n3, n4, n5, hn6, hn7, n8, n9])
    clear hd
    go_enter Tryd.func10, Tryd.ntmps10
    go_upto_region 2 with fail
    rw [HW.out]
    go_wp2_with (first | (go_at_call 18; first | (with_reducible refine (HP1.out _).mono ?_); rintro e w' ⟨rfl, q, rfl⟩ | (with_reducible refine (HP2.out _).mono ?_); rintro e w' ⟨rfl, q, rfl⟩) | (go_at_call 19; first | (with_reducible refine (HL.out _).mono ?_); rintro e w' ⟨rfl, q, rfl⟩ | (with_reducible refine (HL0.out (by assumption) _).mono ?_); rintro e w' ⟨rfl, q, rfl⟩) | (go_at_call 20; with_reducible refine (HA.out _).mono ?_; rintro e w' ⟨rfl, q, rfl⟩) | (go_at_call 21; with_reducible refine (HE.out _).mono ?_; rintro e w' ⟨rfl, q, rfl⟩))
    all_goals (go_ret; exact ⟨by rw [HO.out]; rfl, Later.old _ HK.out⟩)
  have fn9 : ((4 : Int) < s.kind) = False := eq_false n9
  by_cases n10 : s.st < 0
  case pos =>
    have fn10 : (s.st < 0) = True := eq_true n10
    have HO := Lib.hid (show checkS s = 44 by rw [hd]; simp [n1, n2, n3, n4, n5, hn6, hn7, n8, n9, n10])
    clear hd
    go_enter Tryd.func10, Tryd.ntmps10
    go_upto_region 2 with fail
    rw [HW.out]
    go_wp2_with (first | (go_at_call 18; first | (with_reducible refine (HP1.out _).mono ?_); rintro e w' ⟨rfl, q, rfl⟩ | (with_reducible refine (HP2.out _).mono ?_); rintro e w' ⟨rfl, q, rfl⟩) | (go_at_call 19; first | (with_reducible refine (HL.out _).mono ?_); rintro e w' ⟨rfl, q, rfl⟩ | (with_reducible refine (HL0.out (by assumption) _).mono ?_); rintro e w' ⟨rfl, q, rfl⟩) | (go_at_call 20; with_reducible refine (HA.out _).mono ?_; rintro e w' ⟨rfl, q, rfl⟩) | (go_at_call 21; with_reducible refine (HE.out _).mono ?_; rintro e w' ⟨rfl, q, rfl⟩))
    all_goals (go_ret; exact ⟨by rw [HO.out]; rfl, Later.old _ HK.out⟩)
  have fn10 : (s.st < 0) = False := eq_false n10
  by_cases n11 : 2 < s.st
  case pos =>
    have fn11 : ((2 : Int) < s.st) = True := eq_true n11
    have HO := Lib.hid (show checkS s = 44 by rw [hd]; simp [n1, n2, n3, n4, n5, hn6, hn7, n8, n9, n10, n11])
    clear hd
    go_enter Tryd.func10, Tryd.ntmps10
    go_upto_region 2 with fail
    rw [HW.out]
    go_wp2_with (first | (go_at_call 18; first | (with_reducible refine (HP1.out _).mono ?_); rintro e w' ⟨rfl, q, rfl⟩ | (with_reducible refine (HP2.out _).mono ?_); rintro e w' ⟨rfl, q, rfl⟩) | (go_at_call 19; first | (with_reducible refine (HL.out _).mono ?_); rintro e w' ⟨rfl, q, rfl⟩ | (with_reducible refine (HL0.out (by assumption) _).mono ?_); rintro e w' ⟨rfl, q, rfl⟩) | (go_at_call 20; with_reducible refine (HA.out _).mono ?_; rintro e w' ⟨rfl, q, rfl⟩) | (go_at_call 21; with_reducible refine (HE.out _).mono ?_; rintro e w' ⟨rfl, q, rfl⟩))
    all_goals (go_ret; exact ⟨by rw [HO.out]; rfl, Later.old _ HK.out⟩)
  have fn11 : ((2 : Int) < s.st) = False := eq_false n11
  by_cases n12 : linkedS s = false
  case pos =>
    rw [n12] at HL HL0
    have HO := Lib.hid (show checkS s = 45 by rw [hd]; simp [n1, n2, n3, n4, n5, hn6, hn7, n8, n9, n10, n11, n12])
    clear n12
    clear hd
    go_enter Tryd.func10, Tryd.ntmps10
    go_upto_region 2 with fail
    rw [HW.out]
    go_wp2_with (first | (go_at_call 18; first | (with_reducible refine (HP1.out _).mono ?_); rintro e w' ⟨rfl, q, rfl⟩ | (with_reducible refine (HP2.out _).mono ?_); rintro e w' ⟨rfl, q, rfl⟩) | (go_at_call 19; first | (with_reducible refine (HL.out _).mono ?_); rintro e w' ⟨rfl, q, rfl⟩ | (with_reducible refine (HL0.out (by assumption) _).mono ?_); rintro e w' ⟨rfl, q, rfl⟩) | (go_at_call 20; with_reducible refine (HA.out _).mono ?_; rintro e w' ⟨rfl, q, rfl⟩) | (go_at_call 21; with_reducible refine (HE.out _).mono ?_; rintro e w' ⟨rfl, q, rfl⟩))
    all_goals (go_ret; exact ⟨by rw [HO.out]; rfl, Later.old _ HK.out⟩)
  have hn12 := Bool.of_not_eq_false n12
  rw [hn12] at HL HL0
  by_cases n13 : carriedS s.ats = false
  case pos =>
    rw [n13] at HA
    have HO := Lib.hid (show checkS s = 46 by rw [hd]; simp [n1, n2, n3, n4, n5, hn6, hn7, n8, n9, n10, n11, hn12, n13])
    clear n13
    clear hd
    go_enter Tryd.func10, Tryd.ntmps10
    go_upto_region 2 with fail
    rw [HW.out]
    go_wp2_with (first | (go_at_call 18; first | (with_reducible refine (HP1.out _).mono ?_); rintro e w' ⟨rfl, q, rfl⟩ | (with_reducible refine (HP2.out _).mono ?_); rintro e w' ⟨rfl, q, rfl⟩) | (go_at_call 19; first | (with_reducible refine (HL.out _).mono ?_); rintro e w' ⟨rfl, q, rfl⟩ | (with_reducible refine (HL0.out (by assumption) _).mono ?_); rintro e w' ⟨rfl, q, rfl⟩) | (go_at_call 20; with_reducible refine (HA.out _).mono ?_; rintro e w' ⟨rfl, q, rfl⟩) | (go_at_call 21; with_reducible refine (HE.out _).mono ?_; rintro e w' ⟨rfl, q, rfl⟩))
    all_goals (go_ret; exact ⟨by rw [HO.out]; rfl, Later.old _ HK.out⟩)
  have hn13 := Bool.of_not_eq_false n13
  rw [hn13] at HA
  by_cases n14 : toldS s.evs = false
  case pos =>
    rw [n14] at HE
    have HO := Lib.hid (show checkS s = 47 by rw [hd]; simp [n1, n2, n3, n4, n5, hn6, hn7, n8, n9, n10, n11, hn12, hn13, n14])
    clear n14
    clear hd
    go_enter Tryd.func10, Tryd.ntmps10
    go_upto_region 2 with fail
    rw [HW.out]
    go_wp2_with (first | (go_at_call 18; first | (with_reducible refine (HP1.out _).mono ?_); rintro e w' ⟨rfl, q, rfl⟩ | (with_reducible refine (HP2.out _).mono ?_); rintro e w' ⟨rfl, q, rfl⟩) | (go_at_call 19; first | (with_reducible refine (HL.out _).mono ?_); rintro e w' ⟨rfl, q, rfl⟩ | (with_reducible refine (HL0.out (by assumption) _).mono ?_); rintro e w' ⟨rfl, q, rfl⟩) | (go_at_call 20; with_reducible refine (HA.out _).mono ?_; rintro e w' ⟨rfl, q, rfl⟩) | (go_at_call 21; with_reducible refine (HE.out _).mono ?_; rintro e w' ⟨rfl, q, rfl⟩))
    all_goals (go_ret; exact ⟨by rw [HO.out]; rfl, Later.old _ HK.out⟩)
  have hn14 := Bool.of_not_eq_false n14
  rw [hn14] at HE
  have HO := Lib.hid (show checkS s = 0 by rw [hd]; simp [n1, n2, n3, n4, n5, hn6, hn7, n8, n9, n10, n11, hn12, hn13, hn14])
  clear hn6 hn7 hn12 hn13 hn14 n6 n7 n12 n13 n14
  clear hd
  go_enter Tryd.func10, Tryd.ntmps10
  go_upto_region 2 with fail
  rw [HW.out]
  go_wp2_with (first | (go_at_call 18; first | (with_reducible refine (HP1.out _).mono ?_); rintro e w' ⟨rfl, q, rfl⟩ | (with_reducible refine (HP2.out _).mono ?_); rintro e w' ⟨rfl, q, rfl⟩) | (go_at_call 19; first | (with_reducible refine (HL.out _).mono ?_); rintro e w' ⟨rfl, q, rfl⟩ | (with_reducible refine (HL0.out (by assumption) _).mono ?_); rintro e w' ⟨rfl, q, rfl⟩) | (go_at_call 20; with_reducible refine (HA.out _).mono ?_; rintro e w' ⟨rfl, q, rfl⟩) | (go_at_call 21; with_reducible refine (HE.out _).mono ?_; rintro e w' ⟨rfl, q, rfl⟩))
  all_goals (go_ret; exact ⟨by rw [HO.out]; rfl, Later.old _ HK.out⟩)
end Go.Proofs.YtniigjfimggobaaDoor
