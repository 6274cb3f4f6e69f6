/- same: are two spans the same (the walk). -/
import Derived.Test.YtlcbgklealipoaaGreatDoorZT
import Derived.Test.YtlcbgklealipoaaGreatDoorZU
namespace Go.Proofs.YtlcbgklealipoaaGreatDoor
open Go.RowKit
set_option linter.unusedVariables false
set_option linter.unusedSimpArgs false

def sameS (s t : Spn) : Bool := decide (spnC s t = 0)
theorem sameS_no {s t : Spn} (h : s ≠ t) : sameS s t = false := decide_eq_false fun e => h ((spn_zero s t).1 e)
theorem sameS_yes {s t : Spn} (h : s = t) : sameS s t = true := decide_eq_true ((spn_zero s t).2 h)
theorem sameS_iff {s t : Spn} : sameS s t = true ↔ s = t := ⟨fun h => (spn_zero s t).1 (of_decide_eq_true h), sameS_yes⟩
theorem toList_ne {a b : ByteArray} (h : a ≠ b) : (a.toList = b.toList) = False := eq_false fun e => h (by
  rw [ByteArray.toList_eq, ByteArray.toList_eq] at e
  exact ByteArray.ext (Array.toList_inj.1 e))
set_option maxHeartbeats 16000000 in
set_option maxRecDepth 100000 in
theorem same_any (s t : Spn) (lv av ev lu au eu : Value) (w : World) (hs : SReads w s lv av ev) (ht : SReads w t lu au eu) : Calls Tryz.prog 30 #[.agg (s.cells lv av ev), .agg (t.cells lu au eu)] w (BoolPost (sameS s t) w) := by
  have hs0 := hs
  have ht0 := ht
  obtain ⟨⟨slA, slc, rfl, -⟩, ⟨saA, sac, rfl, -⟩, ⟨seA, sec, rfl, -⟩, -, -, -⟩ := hs
  obtain ⟨⟨tlA, tlc, rfl, -⟩, ⟨taA, tac, rfl, -⟩, ⟨teA, tec, rfl, -⟩, -, -, -⟩ := ht
  obtain ⟨X, hX⟩ : ∃ X, X = s.cells (.slice slA s.links.length slc) (.slice saA s.ats.length sac) (.slice seA s.evs.length sec) := ⟨_, rfl⟩
  obtain ⟨Y, hY⟩ : ∃ Y, Y = t.cells (.slice tlA t.links.length tlc) (.slice taA t.ats.length tac) (.slice teA t.evs.length tec) := ⟨_, rfl⟩
  obtain ⟨W, hW⟩ : ∃ W, W = (w.alloc (.cells X 76)).alloc (.cells Y 76) := ⟨_, rfl⟩
  obtain ⟨hk, ha, hb⟩ := box2 w (.cells X 76) (.cells Y 76)
  rw [← hW] at hk ha hb
  have HW := Lib.hid hW.symm
  have HS := Lib.hid (And.intro (hs0.kept hk) (ht0.kept hk))
  have HK := Lib.hid hk
  have hX2 := hX
  have hY2 := hY
  rw [hX] at ha
  rw [hY] at hb
  have a0 : W.cell? ⟨w.heap.size, 0, none⟩ = some (.int .u64 s.hi) := (blk_cell ha 0).trans rfl
  have b0 : W.cell? ⟨w.heap.size + 1, 0, none⟩ = some (.int .u64 t.hi) := (blk_cell hb 0).trans rfl
  have a1 : W.cell? ⟨w.heap.size, 1, none⟩ = some (.int .u64 s.lo) := (blk_cell ha 1).trans rfl
  have b1 : W.cell? ⟨w.heap.size + 1, 1, none⟩ = some (.int .u64 t.lo) := (blk_cell hb 1).trans rfl
  have a2 : W.cell? ⟨w.heap.size, 2, none⟩ = some (.int .u64 s.id) := (blk_cell ha 2).trans rfl
  have b2 : W.cell? ⟨w.heap.size + 1, 2, none⟩ = some (.int .u64 t.id) := (blk_cell hb 2).trans rfl
  have a3 : W.cell? ⟨w.heap.size, 3, none⟩ = some (.int .u64 s.par) := (blk_cell ha 3).trans rfl
  have b3 : W.cell? ⟨w.heap.size + 1, 3, none⟩ = some (.int .u64 t.par) := (blk_cell hb 3).trans rfl
  have a4 : W.cell? ⟨w.heap.size, 4, none⟩ = some (.slice slA s.links.length slc) := (blk_cell ha 4).trans rfl
  have b4 : W.cell? ⟨w.heap.size + 1, 4, none⟩ = some (.slice tlA t.links.length tlc) := (blk_cell hb 4).trans rfl
  have a5 : W.cell? ⟨w.heap.size, 5, none⟩ = some (.string s.svc) := (blk_cell ha 5).trans rfl
  have b5 : W.cell? ⟨w.heap.size + 1, 5, none⟩ = some (.string t.svc) := (blk_cell hb 5).trans rfl
  have a6 : W.cell? ⟨w.heap.size, 6, none⟩ = some (.string s.op) := (blk_cell ha 6).trans rfl
  have b6 : W.cell? ⟨w.heap.size + 1, 6, none⟩ = some (.string t.op) := (blk_cell hb 6).trans rfl
  have a7 : W.cell? ⟨w.heap.size, 7, none⟩ = some (.int .i64 s.kind) := (blk_cell ha 7).trans rfl
  have b7 : W.cell? ⟨w.heap.size + 1, 7, none⟩ = some (.int .i64 t.kind) := (blk_cell hb 7).trans rfl
  have a8 : W.cell? ⟨w.heap.size, 8, none⟩ = some (.int .i64 s.st) := (blk_cell ha 8).trans rfl
  have b8 : W.cell? ⟨w.heap.size + 1, 8, none⟩ = some (.int .i64 t.st) := (blk_cell hb 8).trans rfl
  have a9 : W.cell? ⟨w.heap.size, 9, none⟩ = some (.int .i64 s.start) := (blk_cell ha 9).trans rfl
  have b9 : W.cell? ⟨w.heap.size + 1, 9, none⟩ = some (.int .i64 t.start) := (blk_cell hb 9).trans rfl
  have a10 : W.cell? ⟨w.heap.size, 10, none⟩ = some (.int .i64 s.fin) := (blk_cell ha 10).trans rfl
  have b10 : W.cell? ⟨w.heap.size + 1, 10, none⟩ = some (.int .i64 t.fin) := (blk_cell hb 10).trans rfl
  have a11 : W.cell? ⟨w.heap.size, 11, none⟩ = some (.slice saA s.ats.length sac) := (blk_cell ha 11).trans rfl
  have b11 : W.cell? ⟨w.heap.size + 1, 11, none⟩ = some (.slice taA t.ats.length tac) := (blk_cell hb 11).trans rfl
  have a12 : W.cell? ⟨w.heap.size, 12, none⟩ = some (.slice seA s.evs.length sec) := (blk_cell ha 12).trans rfl
  have b12 : W.cell? ⟨w.heap.size + 1, 12, none⟩ = some (.slice teA t.evs.length tec) := (blk_cell hb 12).trans rfl
  rw [← hX2, ← hY2]
  clear hX hY hX2 hY2 ha hb hk hW hs0 ht0
  by_cases e0 : s.hi = t.hi
  case neg =>
    have HO := Lib.hid (sameS_no (s := s) (t := t) fun e => e0 (by rw [e]))
    have d0 : ((s.hi : Int) = t.hi) = False := eq_false (by omega)
    have d0b : ((s.hi : Int) == t.hi) = false := by simp only [beq_eq_false_iff_ne]; omega
    have d0c : ((s.hi : Int) != t.hi) = true := by simp only [bne, d0b, Bool.not_false]
    have HE := Lib.hid e0
    clear e0
    go_enter Tryz.func30, Tryz.ntmps30
    go_upto_region 1 with fail
    rw [HW.out]
    go_wp2_with fail
    go_ret
    exact ⟨by rw [HO.out]; rfl, HK.out⟩
  have d0 : ((s.hi : Int) = t.hi) = True := eq_true (by omega)
  have d0b : ((s.hi : Int) == t.hi) = true := by simp only [beq_iff_eq]; omega
  have d0c : ((s.hi : Int) != t.hi) = false := by simp only [bne, d0b, Bool.not_true]
  have E0 := Lib.hid e0
  clear e0
  by_cases e1 : s.lo = t.lo
  case neg =>
    have HO := Lib.hid (sameS_no (s := s) (t := t) fun e => e1 (by rw [e]))
    have d1 : ((s.lo : Int) = t.lo) = False := eq_false (by omega)
    have d1b : ((s.lo : Int) == t.lo) = false := by simp only [beq_eq_false_iff_ne]; omega
    have d1c : ((s.lo : Int) != t.lo) = true := by simp only [bne, d1b, Bool.not_false]
    have HE := Lib.hid e1
    clear e1
    go_enter Tryz.func30, Tryz.ntmps30
    go_upto_region 1 with fail
    rw [HW.out]
    go_wp2_with fail
    go_ret
    exact ⟨by rw [HO.out]; rfl, HK.out⟩
  have d1 : ((s.lo : Int) = t.lo) = True := eq_true (by omega)
  have d1b : ((s.lo : Int) == t.lo) = true := by simp only [beq_iff_eq]; omega
  have d1c : ((s.lo : Int) != t.lo) = false := by simp only [bne, d1b, Bool.not_true]
  have E1 := Lib.hid e1
  clear e1
  by_cases e2 : s.id = t.id
  case neg =>
    have HO := Lib.hid (sameS_no (s := s) (t := t) fun e => e2 (by rw [e]))
    have d2 : ((s.id : Int) = t.id) = False := eq_false (by omega)
    have d2b : ((s.id : Int) == t.id) = false := by simp only [beq_eq_false_iff_ne]; omega
    have d2c : ((s.id : Int) != t.id) = true := by simp only [bne, d2b, Bool.not_false]
    have HE := Lib.hid e2
    clear e2
    go_enter Tryz.func30, Tryz.ntmps30
    go_upto_region 1 with fail
    rw [HW.out]
    go_wp2_with fail
    go_ret
    exact ⟨by rw [HO.out]; rfl, HK.out⟩
  have d2 : ((s.id : Int) = t.id) = True := eq_true (by omega)
  have d2b : ((s.id : Int) == t.id) = true := by simp only [beq_iff_eq]; omega
  have d2c : ((s.id : Int) != t.id) = false := by simp only [bne, d2b, Bool.not_true]
  have E2 := Lib.hid e2
  clear e2
  by_cases e3 : s.par = t.par
  case neg =>
    have HO := Lib.hid (sameS_no (s := s) (t := t) fun e => e3 (by rw [e]))
    have d3 : ((s.par : Int) = t.par) = False := eq_false (by omega)
    have d3b : ((s.par : Int) == t.par) = false := by simp only [beq_eq_false_iff_ne]; omega
    have d3c : ((s.par : Int) != t.par) = true := by simp only [bne, d3b, Bool.not_false]
    have HE := Lib.hid e3
    clear e3
    go_enter Tryz.func30, Tryz.ntmps30
    go_upto_region 1 with fail
    rw [HW.out]
    go_wp2_with fail
    go_ret
    exact ⟨by rw [HO.out]; rfl, HK.out⟩
  have d3 : ((s.par : Int) = t.par) = True := eq_true (by omega)
  have d3b : ((s.par : Int) == t.par) = true := by simp only [beq_iff_eq]; omega
  have d3c : ((s.par : Int) != t.par) = false := by simp only [bne, d3b, Bool.not_true]
  have E3 := Lib.hid e3
  clear e3
  by_cases e4 : s.svc = t.svc
  case neg =>
    have HO := Lib.hid (sameS_no (s := s) (t := t) fun e => e4 (by rw [e]))
    have d4 := toList_ne e4
    have d4b : (s.svc.toList == t.svc.toList) = false := by rw [beq_eq_false_iff_ne]; exact fun e => by rw [e] at d4; simp at d4
    have HE := Lib.hid e4
    clear e4
    go_enter Tryz.func30, Tryz.ntmps30
    go_upto_region 1 with fail
    rw [HW.out]
    go_wp2_with fail
    go_ret
    exact ⟨by rw [HO.out]; rfl, HK.out⟩
  have d4 : (s.svc.toList = t.svc.toList) = True := eq_true (by rw [e4])
  have d4b : (s.svc.toList == t.svc.toList) = true := by rw [e4]; simp
  have E4 := Lib.hid e4
  clear e4
  by_cases e5 : s.op = t.op
  case neg =>
    have HO := Lib.hid (sameS_no (s := s) (t := t) fun e => e5 (by rw [e]))
    have d5 := toList_ne e5
    have d5b : (s.op.toList == t.op.toList) = false := by rw [beq_eq_false_iff_ne]; exact fun e => by rw [e] at d5; simp at d5
    have HE := Lib.hid e5
    clear e5
    go_enter Tryz.func30, Tryz.ntmps30
    go_upto_region 1 with fail
    rw [HW.out]
    go_wp2_with fail
    go_ret
    exact ⟨by rw [HO.out]; rfl, HK.out⟩
  have d5 : (s.op.toList = t.op.toList) = True := eq_true (by rw [e5])
  have d5b : (s.op.toList == t.op.toList) = true := by rw [e5]; simp
  have E5 := Lib.hid e5
  clear e5
  by_cases e6 : s.kind = t.kind
  case neg =>
    have HO := Lib.hid (sameS_no (s := s) (t := t) fun e => e6 (by rw [e]))
    have d6 : (s.kind = t.kind) = False := eq_false e6
    have d6b : (s.kind == t.kind) = false := by simpa using e6
    have d6c : (s.kind != t.kind) = true := by simp only [bne, d6b, Bool.not_false]
    have HE := Lib.hid e6
    clear e6
    go_enter Tryz.func30, Tryz.ntmps30
    go_upto_region 1 with fail
    rw [HW.out]
    go_wp2_with fail
    go_ret
    exact ⟨by rw [HO.out]; rfl, HK.out⟩
  have d6 : (s.kind = t.kind) = True := eq_true e6
  have d6b : (s.kind == t.kind) = true := by simpa using e6
  have d6c : (s.kind != t.kind) = false := by simp only [bne, d6b, Bool.not_true]
  have E6 := Lib.hid e6
  clear e6
  by_cases e7 : s.st = t.st
  case neg =>
    have HO := Lib.hid (sameS_no (s := s) (t := t) fun e => e7 (by rw [e]))
    have d7 : (s.st = t.st) = False := eq_false e7
    have d7b : (s.st == t.st) = false := by simpa using e7
    have d7c : (s.st != t.st) = true := by simp only [bne, d7b, Bool.not_false]
    have HE := Lib.hid e7
    clear e7
    go_enter Tryz.func30, Tryz.ntmps30
    go_upto_region 1 with fail
    rw [HW.out]
    go_wp2_with fail
    go_ret
    exact ⟨by rw [HO.out]; rfl, HK.out⟩
  have d7 : (s.st = t.st) = True := eq_true e7
  have d7b : (s.st == t.st) = true := by simpa using e7
  have d7c : (s.st != t.st) = false := by simp only [bne, d7b, Bool.not_true]
  have E7 := Lib.hid e7
  clear e7
  by_cases e8 : s.start = t.start
  case neg =>
    have HO := Lib.hid (sameS_no (s := s) (t := t) fun e => e8 (by rw [e]))
    have d8 : (s.start = t.start) = False := eq_false e8
    have d8b : (s.start == t.start) = false := by simpa using e8
    have d8c : (s.start != t.start) = true := by simp only [bne, d8b, Bool.not_false]
    have HE := Lib.hid e8
    clear e8
    go_enter Tryz.func30, Tryz.ntmps30
    go_upto_region 1 with fail
    rw [HW.out]
    go_wp2_with fail
    go_ret
    exact ⟨by rw [HO.out]; rfl, HK.out⟩
  have d8 : (s.start = t.start) = True := eq_true e8
  have d8b : (s.start == t.start) = true := by simpa using e8
  have d8c : (s.start != t.start) = false := by simp only [bne, d8b, Bool.not_true]
  have E8 := Lib.hid e8
  clear e8
  by_cases e9 : s.fin = t.fin
  case neg =>
    have HO := Lib.hid (sameS_no (s := s) (t := t) fun e => e9 (by rw [e]))
    have d9 : (s.fin = t.fin) = False := eq_false e9
    have d9b : (s.fin == t.fin) = false := by simpa using e9
    have d9c : (s.fin != t.fin) = true := by simp only [bne, d9b, Bool.not_false]
    have HE := Lib.hid e9
    clear e9
    go_enter Tryz.func30, Tryz.ntmps30
    go_upto_region 1 with fail
    rw [HW.out]
    go_wp2_with fail
    go_ret
    exact ⟨by rw [HO.out]; rfl, HK.out⟩
  have d9 : (s.fin = t.fin) = True := eq_true e9
  have d9b : (s.fin == t.fin) = true := by simpa using e9
  have d9c : (s.fin != t.fin) = false := by simp only [bne, d9b, Bool.not_true]
  have E9 := Lib.hid e9
  clear e9
  by_cases l0 : s.links.length = t.links.length
  case neg =>
    have HO := Lib.hid (sameS_no (s := s) (t := t) fun e => l0 (by rw [e]))
    have m0 : ((s.links.length : Int) = t.links.length) = False := eq_false (by omega)
    have m0b : ((s.links.length : Int) == t.links.length) = false := by simp only [beq_eq_false_iff_ne]; omega
    have m0c : ((s.links.length : Int) != t.links.length) = true := by simp only [bne, m0b, Bool.not_false]
    have HE := Lib.hid l0
    clear l0
    go_enter Tryz.func30, Tryz.ntmps30
    go_upto_region 1 with fail
    rw [HW.out]
    go_wp2_with fail
    go_ret
    exact ⟨by rw [HO.out]; rfl, HK.out⟩
  have m0 : ((s.links.length : Int) = t.links.length) = True := eq_true (by omega)
  have m0b : ((s.links.length : Int) == t.links.length) = true := by simp only [beq_iff_eq]; omega
  have m0c : ((s.links.length : Int) != t.links.length) = false := by simp only [bne, m0b, Bool.not_true]
  have L0 := Lib.hid l0
  clear l0
  by_cases l1 : s.ats.length = t.ats.length
  case neg =>
    have HO := Lib.hid (sameS_no (s := s) (t := t) fun e => l1 (by rw [e]))
    have m1 : ((s.ats.length : Int) = t.ats.length) = False := eq_false (by omega)
    have m1b : ((s.ats.length : Int) == t.ats.length) = false := by simp only [beq_eq_false_iff_ne]; omega
    have m1c : ((s.ats.length : Int) != t.ats.length) = true := by simp only [bne, m1b, Bool.not_false]
    have HE := Lib.hid l1
    clear l1
    go_enter Tryz.func30, Tryz.ntmps30
    go_upto_region 1 with fail
    rw [HW.out]
    go_wp2_with fail
    go_ret
    exact ⟨by rw [HO.out]; rfl, HK.out⟩
  have m1 : ((s.ats.length : Int) = t.ats.length) = True := eq_true (by omega)
  have m1b : ((s.ats.length : Int) == t.ats.length) = true := by simp only [beq_iff_eq]; omega
  have m1c : ((s.ats.length : Int) != t.ats.length) = false := by simp only [bne, m1b, Bool.not_true]
  have L1 := Lib.hid l1
  clear l1
  by_cases l2 : s.evs.length = t.evs.length
  case neg =>
    have HO := Lib.hid (sameS_no (s := s) (t := t) fun e => l2 (by rw [e]))
    have m2 : ((s.evs.length : Int) = t.evs.length) = False := eq_false (by omega)
    have m2b : ((s.evs.length : Int) == t.evs.length) = false := by simp only [beq_eq_false_iff_ne]; omega
    have m2c : ((s.evs.length : Int) != t.evs.length) = true := by simp only [bne, m2b, Bool.not_false]
    have HE := Lib.hid l2
    clear l2
    go_enter Tryz.func30, Tryz.ntmps30
    go_upto_region 1 with fail
    rw [HW.out]
    go_wp2_with fail
    go_ret
    exact ⟨by rw [HO.out]; rfl, HK.out⟩
  have m2 : ((s.evs.length : Int) = t.evs.length) = True := eq_true (by omega)
  have m2b : ((s.evs.length : Int) == t.evs.length) = true := by simp only [beq_iff_eq]; omega
  have m2c : ((s.evs.length : Int) != t.evs.length) = false := by simp only [bne, m2b, Bool.not_true]
  have L2 := Lib.hid l2
  clear l2
  go_enter Tryz.func30, Tryz.ntmps30
  go_upto_region 1 with fail
  rw [HW.out]
  go_wp2_with fail
  clear d0 d0b d1 d1b d2 d2b d3 d3b d4 d4b d5 d5b d6 d6b d7 d7b d8 d8b d9 d9b d0c d1c d2c d3c d6c d7c d8c d9c m0 m0b m0c m1 m1b m1c m2 m2b m2c a0 b0 a1 b1 a2 b2 a3 b3 a5 b5 a6 b6 a7 b7 a8 b8 a9 b9 a10 b10
  have hs4 := a4
  have ht4 := b4
  have ls0 := HS.out.1.l0
  have HLD := Lib.hid (show ∀ (j : Nat) x y, s.links[j]? = some x → t.links[j]? = some y → x ≠ y → sameS s t = false from fun j x y h1 h2 hn => sameS_no fun e => by rw [e, h2] at h1; injection h1 with h1; exact hn h1.symm)
  go_loopw [5] (fun i wr => ∃ k : Nat, i = .int .i64 k ∧ k ≤ s.links.length ∧ (∀ j, j < k → s.links[j]? = t.links[j]?) ∧ Kept (fun _ => False) W wr) (fun i _ => s.links.length - (intOf i).toNat)
  case atStart => exact ⟨0, rfl, Nat.zero_le _, fun j hj => absurd hj (by omega), Kept.refl _ _⟩
  obtain ⟨k, rfl, hk, hall, hkw⟩ := hrel
  have k0 : (0 : Int) ≤ k := by omega
  have hs5 : wr.cell? ⟨w.heap.size, 4, none⟩ = some (.slice slA s.links.length slc) := cell_kept hkw hs4
  have ht5 : wr.cell? ⟨w.heap.size + 1, 4, none⟩ = some (.slice tlA t.links.length tlc) := cell_kept hkw ht4
  by_cases hlt : k < s.links.length
  · obtain ⟨x, hx⟩ : ∃ x, s.links[k]? = some x := ⟨_, List.getElem?_eq_getElem hlt⟩
    obtain ⟨y, hy⟩ : ∃ y, t.links[k]? = some y := ⟨_, List.getElem?_eq_getElem (by rw [← L0.out]; exact hlt)⟩
    obtain ⟨A, c, hA, hca⟩ := HS.out.1.links.kept hkw
    injection hA with eA _ ec
    subst eA ec
    obtain ⟨b, off, rfl, hcs⟩ := hca (by omega)
    obtain ⟨A, c, hA, hcb⟩ := HS.out.2.links.kept hkw
    injection hA with eA _ ec
    subst eA ec
    obtain ⟨b2, off2, rfl, hct⟩ := hcb (by have := L0.out; omega)
    have k1 : (k : Int) < s.links.length := by omega
    have k2 : (k : Int) < t.links.length := by have := L0.out; omega
    have f0 := hcs k x hx
    have g0 := hct k y hy
    have HXY := Lib.hid (And.intro hx hy)
    have HKW := Lib.hid hkw
    have HALL := Lib.hid hall
    clear hcs hct hca hcb hx hy hall hkw hs4 ht4 hlt
    by_cases c0 : x = y
    case neg =>
      have d0 : ((x : Int) = y) = False := eq_false (by omega)
      have d0b : ((x : Int) == y) = false := by simp only [beq_eq_false_iff_ne]; omega
      have d0c : ((x : Int) != y) = true := by simp only [bne, d0b, Bool.not_false]
      have HC := Lib.hid c0
      clear c0
      have HNE := Lib.hid (HLD.out k x y HXY.out.1 HXY.out.2 (fun e => HC.out (by rw [e])))
      go_wp2_with fail
      go_quiet (fail)
      go_wp2_with fail
      go_ret
      exact ⟨by rw [HNE.out]; rfl, (HK.out.trans HKW.out (fun _ _ e => e) (fun _ _ e => e)).trans (Kept.drewN (fun _ => False) _ _) (fun _ _ e => e) (fun _ _ e => e)⟩
    have d0 : ((x : Int) = y) = True := eq_true (by omega)
    have d0b : ((x : Int) == y) = true := by simp only [beq_iff_eq]; omega
    have d0c : ((x : Int) != y) = false := by simp only [bne, d0b, Bool.not_true]
    have C0 := Lib.hid c0
    clear c0
    go_wp2_with fail
    go_quiet (fail)
    go_wp2_with fail
    refine ⟨⟨k + 1, by congr 1, by omega, fun j hj => ?_, HKW.out.trans (Kept.drewN (fun _ => False) _ _) (fun _ _ e => e) (fun _ _ e => e)⟩, by simp [intOf]; omega⟩
    by_cases hjk : j = k
    · subst hjk
      rw [HXY.out.1, HXY.out.2]
      exact congrArg some (C0.out)
    · exact HALL.out j (by omega)
  have k1 : ¬ (k : Int) < s.links.length := by omega
  have hK0 : s.links = t.links := by
    refine List.ext_getElem? fun j => ?_
    by_cases hj : j < k
    · exact hall j hj
    · rw [List.getElem?_eq_none (by omega), List.getElem?_eq_none (by have := L0.out; omega)]
  have K0 := Lib.hid hK0
  have HKW0 := Lib.hid hkw
  clear hall hlt hK0 hkw HLD hs4 ht4 ls0
  go_wp2_with fail
  clear hs5 ht5 k0 k1 hk
  have hkw := HKW0.out
  obtain ⟨W0, hWi⟩ : ∃ V : World, V = wr := ⟨_, rfl⟩
  rw [← hWi] at hkw ⊢
  clear hWi HKW0
  have hs4 := a11
  have ht4 := b11
  have ls0 := HS.out.1.a0
  have HLD := Lib.hid (show ∀ (j : Nat) x y, s.ats[j]? = some x → t.ats[j]? = some y → x ≠ y → sameS s t = false from fun j x y h1 h2 hn => sameS_no fun e => by rw [e, h2] at h1; injection h1 with h1; exact hn h1.symm)
  go_loopw [6] (fun i wr => ∃ k : Nat, i = .int .i64 k ∧ k ≤ s.ats.length ∧ (∀ j, j < k → s.ats[j]? = t.ats[j]?) ∧ Kept (fun _ => False) W wr) (fun i _ => s.ats.length - (intOf i).toNat)
  case atStart => exact ⟨0, rfl, Nat.zero_le _, fun j hj => absurd hj (by omega), hkw⟩
  obtain ⟨k, rfl, hk, hall, hkw⟩ := hrel
  have k0 : (0 : Int) ≤ k := by omega
  have hs5 : wr.cell? ⟨w.heap.size, 11, none⟩ = some (.slice saA s.ats.length sac) := cell_kept hkw hs4
  have ht5 : wr.cell? ⟨w.heap.size + 1, 11, none⟩ = some (.slice taA t.ats.length tac) := cell_kept hkw ht4
  by_cases hlt : k < s.ats.length
  · obtain ⟨x, hx⟩ : ∃ x, s.ats[k]? = some x := ⟨_, List.getElem?_eq_getElem hlt⟩
    obtain ⟨y, hy⟩ : ∃ y, t.ats[k]? = some y := ⟨_, List.getElem?_eq_getElem (by rw [← L1.out]; exact hlt)⟩
    obtain ⟨A, c, hA, hca⟩ := HS.out.1.ats.kept hkw
    injection hA with eA _ ec
    subst eA ec
    obtain ⟨b, off, rfl, hcs⟩ := hca (by omega)
    obtain ⟨A, c, hA, hcb⟩ := HS.out.2.ats.kept hkw
    injection hA with eA _ ec
    subst eA ec
    obtain ⟨b2, off2, rfl, hct⟩ := hcb (by have := L1.out; omega)
    have k1 : (k : Int) < s.ats.length := by omega
    have k2 : (k : Int) < t.ats.length := by have := L1.out; omega
    obtain ⟨f0, f1, f2, f3⟩ := hcs k x hx
    obtain ⟨g0, g1, g2, g3⟩ := hct k y hy
    have HXY := Lib.hid (And.intro hx hy)
    have HKW := Lib.hid hkw
    have HALL := Lib.hid hall
    clear hcs hct hca hcb hx hy hall hkw hs4 ht4 hlt
    by_cases c0 : x.key = y.key
    case neg =>
      have d0 := toList_ne c0
      have d0b : (x.key.toList == y.key.toList) = false := by rw [beq_eq_false_iff_ne]; exact fun e => by rw [e] at d0; simp at d0
      have HC := Lib.hid c0
      clear c0
      have HNE := Lib.hid (HLD.out k x y HXY.out.1 HXY.out.2 (fun e => HC.out (by rw [e])))
      go_wp2_with fail
      go_quiet (fail)
      go_wp2_with fail
      go_ret
      exact ⟨by rw [HNE.out]; rfl, (HK.out.trans HKW.out (fun _ _ e => e) (fun _ _ e => e)).trans (Kept.drewN (fun _ => False) _ _) (fun _ _ e => e) (fun _ _ e => e)⟩
    have d0 : (x.key.toList = y.key.toList) = True := eq_true (by rw [c0])
    have d0b : (x.key.toList == y.key.toList) = true := by rw [c0]; simp
    have C0 := Lib.hid c0
    clear c0
    by_cases c1 : x.k = y.k
    case neg =>
      have d1 : (x.k = y.k) = False := eq_false c1
      have d1b : (x.k == y.k) = false := by simpa using c1
      have HC := Lib.hid c1
      clear c1
      have HNE := Lib.hid (HLD.out k x y HXY.out.1 HXY.out.2 (fun e => HC.out (by rw [e])))
      go_wp2_with fail
      go_quiet (fail)
      go_wp2_with fail
      go_ret
      exact ⟨by rw [HNE.out]; rfl, (HK.out.trans HKW.out (fun _ _ e => e) (fun _ _ e => e)).trans (Kept.drewN (fun _ => False) _ _) (fun _ _ e => e) (fun _ _ e => e)⟩
    have d1 : (x.k = y.k) = True := eq_true c1
    have d1b : (x.k == y.k) = true := by simpa using c1
    have C1 := Lib.hid c1
    clear c1
    by_cases c2 : x.t = y.t
    case neg =>
      have d2 := toList_ne c2
      have d2b : (x.t.toList == y.t.toList) = false := by rw [beq_eq_false_iff_ne]; exact fun e => by rw [e] at d2; simp at d2
      have HC := Lib.hid c2
      clear c2
      have HNE := Lib.hid (HLD.out k x y HXY.out.1 HXY.out.2 (fun e => HC.out (by rw [e])))
      go_wp2_with fail
      go_quiet (fail)
      go_wp2_with fail
      go_ret
      exact ⟨by rw [HNE.out]; rfl, (HK.out.trans HKW.out (fun _ _ e => e) (fun _ _ e => e)).trans (Kept.drewN (fun _ => False) _ _) (fun _ _ e => e) (fun _ _ e => e)⟩
    have d2 : (x.t.toList = y.t.toList) = True := eq_true (by rw [c2])
    have d2b : (x.t.toList == y.t.toList) = true := by rw [c2]; simp
    have C2 := Lib.hid c2
    clear c2
    by_cases c3 : x.i = y.i
    case neg =>
      have d3 : (x.i = y.i) = False := eq_false c3
      have d3b : (x.i == y.i) = false := by simpa using c3
      have HC := Lib.hid c3
      clear c3
      have HNE := Lib.hid (HLD.out k x y HXY.out.1 HXY.out.2 (fun e => HC.out (by rw [e])))
      go_wp2_with fail
      go_quiet (fail)
      go_wp2_with fail
      go_ret
      exact ⟨by rw [HNE.out]; rfl, (HK.out.trans HKW.out (fun _ _ e => e) (fun _ _ e => e)).trans (Kept.drewN (fun _ => False) _ _) (fun _ _ e => e) (fun _ _ e => e)⟩
    have d3 : (x.i = y.i) = True := eq_true c3
    have d3b : (x.i == y.i) = true := by simpa using c3
    have C3 := Lib.hid c3
    clear c3
    go_wp2_with fail
    go_quiet (fail)
    go_wp2_with fail
    refine ⟨⟨k + 1, by congr 1, by omega, fun j hj => ?_, HKW.out.trans (Kept.drewN (fun _ => False) _ _) (fun _ _ e => e) (fun _ _ e => e)⟩, by simp [intOf]; omega⟩
    by_cases hjk : j = k
    · subst hjk
      rw [HXY.out.1, HXY.out.2]
      exact congrArg some (Atr.ext' C0.out C1.out C2.out C3.out)
    · exact HALL.out j (by omega)
  have k1 : ¬ (k : Int) < s.ats.length := by omega
  have hK1 : s.ats = t.ats := by
    refine List.ext_getElem? fun j => ?_
    by_cases hj : j < k
    · exact hall j hj
    · rw [List.getElem?_eq_none (by omega), List.getElem?_eq_none (by have := L1.out; omega)]
  have K1 := Lib.hid hK1
  have HKW1 := Lib.hid hkw
  clear hall hlt hK1 hkw HLD hs4 ht4 ls0
  go_wp2_with fail
  clear hs5 ht5 k0 k1 hk
  have hkw := HKW1.out
  obtain ⟨W1, hWi⟩ : ∃ V : World, V = wr := ⟨_, rfl⟩
  rw [← hWi] at hkw ⊢
  clear hWi HKW1
  have hs4 := a12
  have ht4 := b12
  have ls0 := HS.out.1.e0
  have HLD := Lib.hid (show ∀ (j : Nat) x y, s.evs[j]? = some x → t.evs[j]? = some y → x ≠ y → sameS s t = false from fun j x y h1 h2 hn => sameS_no fun e => by rw [e, h2] at h1; injection h1 with h1; exact hn h1.symm)
  go_loopw [7] (fun i wr => ∃ k : Nat, i = .int .i64 k ∧ k ≤ s.evs.length ∧ (∀ j, j < k → s.evs[j]? = t.evs[j]?) ∧ Kept (fun _ => False) W wr) (fun i _ => s.evs.length - (intOf i).toNat)
  case atStart => exact ⟨0, rfl, Nat.zero_le _, fun j hj => absurd hj (by omega), hkw⟩
  obtain ⟨k, rfl, hk, hall, hkw⟩ := hrel
  have k0 : (0 : Int) ≤ k := by omega
  have hs5 : wr.cell? ⟨w.heap.size, 12, none⟩ = some (.slice seA s.evs.length sec) := cell_kept hkw hs4
  have ht5 : wr.cell? ⟨w.heap.size + 1, 12, none⟩ = some (.slice teA t.evs.length tec) := cell_kept hkw ht4
  by_cases hlt : k < s.evs.length
  · obtain ⟨x, hx⟩ : ∃ x, s.evs[k]? = some x := ⟨_, List.getElem?_eq_getElem hlt⟩
    obtain ⟨y, hy⟩ : ∃ y, t.evs[k]? = some y := ⟨_, List.getElem?_eq_getElem (by rw [← L2.out]; exact hlt)⟩
    obtain ⟨A, c, hA, hca⟩ := HS.out.1.evs.kept hkw
    injection hA with eA _ ec
    subst eA ec
    obtain ⟨b, off, rfl, hcs⟩ := hca (by omega)
    obtain ⟨A, c, hA, hcb⟩ := HS.out.2.evs.kept hkw
    injection hA with eA _ ec
    subst eA ec
    obtain ⟨b2, off2, rfl, hct⟩ := hcb (by have := L2.out; omega)
    have k1 : (k : Int) < s.evs.length := by omega
    have k2 : (k : Int) < t.evs.length := by have := L2.out; omega
    obtain ⟨f0, f1⟩ := hcs k x hx
    obtain ⟨g0, g1⟩ := hct k y hy
    have HXY := Lib.hid (And.intro hx hy)
    have HKW := Lib.hid hkw
    have HALL := Lib.hid hall
    clear hcs hct hca hcb hx hy hall hkw hs4 ht4 hlt
    by_cases c0 : x.at_ = y.at_
    case neg =>
      have d0 : (x.at_ = y.at_) = False := eq_false c0
      have d0b : (x.at_ == y.at_) = false := by simpa using c0
      have HC := Lib.hid c0
      clear c0
      have HNE := Lib.hid (HLD.out k x y HXY.out.1 HXY.out.2 (fun e => HC.out (by rw [e])))
      go_wp2_with fail
      go_quiet (fail)
      go_wp2_with fail
      go_ret
      exact ⟨by rw [HNE.out]; rfl, (HK.out.trans HKW.out (fun _ _ e => e) (fun _ _ e => e)).trans (Kept.drewN (fun _ => False) _ _) (fun _ _ e => e) (fun _ _ e => e)⟩
    have d0 : (x.at_ = y.at_) = True := eq_true c0
    have d0b : (x.at_ == y.at_) = true := by simpa using c0
    have C0 := Lib.hid c0
    clear c0
    by_cases c1 : x.n = y.n
    case neg =>
      have d1 := toList_ne c1
      have d1b : (x.n.toList == y.n.toList) = false := by rw [beq_eq_false_iff_ne]; exact fun e => by rw [e] at d1; simp at d1
      have HC := Lib.hid c1
      clear c1
      have HNE := Lib.hid (HLD.out k x y HXY.out.1 HXY.out.2 (fun e => HC.out (by rw [e])))
      go_wp2_with fail
      go_quiet (fail)
      go_wp2_with fail
      go_ret
      exact ⟨by rw [HNE.out]; rfl, (HK.out.trans HKW.out (fun _ _ e => e) (fun _ _ e => e)).trans (Kept.drewN (fun _ => False) _ _) (fun _ _ e => e) (fun _ _ e => e)⟩
    have d1 : (x.n.toList = y.n.toList) = True := eq_true (by rw [c1])
    have d1b : (x.n.toList == y.n.toList) = true := by rw [c1]; simp
    have C1 := Lib.hid c1
    clear c1
    go_wp2_with fail
    go_quiet (fail)
    go_wp2_with fail
    refine ⟨⟨k + 1, by congr 1, by omega, fun j hj => ?_, HKW.out.trans (Kept.drewN (fun _ => False) _ _) (fun _ _ e => e) (fun _ _ e => e)⟩, by simp [intOf]; omega⟩
    by_cases hjk : j = k
    · subst hjk
      rw [HXY.out.1, HXY.out.2]
      exact congrArg some (Evt.ext' C0.out C1.out)
    · exact HALL.out j (by omega)
  have k1 : ¬ (k : Int) < s.evs.length := by omega
  have hK2 : s.evs = t.evs := by
    refine List.ext_getElem? fun j => ?_
    by_cases hj : j < k
    · exact hall j hj
    · rw [List.getElem?_eq_none (by omega), List.getElem?_eq_none (by have := L2.out; omega)]
  have K2 := Lib.hid hK2
  have HKW2 := Lib.hid hkw
  have HO := Lib.hid (sameS_yes (s := s) (t := t) (Spn.ext' E0.out E1.out E2.out E3.out K0.out E4.out E5.out E6.out E7.out E8.out E9.out K1.out K2.out))
  clear hall hlt hK2 hkw HLD hs4 ht4 ls0
  go_wp2_with fail
  go_ret
  exact ⟨by rw [HO.out]; rfl, HK.out.trans HKW2.out (fun _ _ e => e) (fun _ _ e => e)⟩

end Go.Proofs.YtlcbgklealipoaaGreatDoor
