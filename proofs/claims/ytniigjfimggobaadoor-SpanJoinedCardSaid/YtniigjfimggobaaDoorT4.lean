/- Attributes against attributes, events against events (the walks). -/
import Derived.Test.YtniigjfimggobaaDoorT3
namespace Go.Proofs.YtniigjfimggobaaDoor
open Go.RowKit
set_option linter.unusedVariables false
set_option linter.unusedSimpArgs false

set_option maxHeartbeats 8000000 in
set_option maxRecDepth 100000 in
theorem cmpAttrs_any (l m : List Atr) (v u : Value) (w : World) (hl : TReads w v l) (hm : TReads w u m) (h1 : l.length ≤ 9223372036854775807) (h2 : m.length ≤ 9223372036854775807) : Calls Tryd.prog 32 #[v, u, .func (.func 33) #[] #[]] w (IntPost (listC atrC l m) w) := by
  obtain ⟨A, c, rfl, hca⟩ := hl
  obtain ⟨B, d, rfl, hcb⟩ := hm
  have HC := Lib.hid (And.intro hca hcb)
  clear hca hcb
  go_enter Tryd.func32, Tryd.ntmps32
  go_wp2_with fail
  go_loopw [13] (fun i wr => ∃ k : Nat, i = .int .i64 k ∧ k ≤ l.length ∧ listC atrC l m = listC atrC (l.drop k) (m.drop k) ∧ Kept (fun _ => False) w wr ∧ k ≤ m.length) (fun i _ => l.length - (intOf i).toNat)
  case atStart => exact ⟨0, rfl, by omega, by simp, .refl _ _, by omega⟩
  case round =>
    obtain ⟨k, rfl, hk, ho, hkw, hkm⟩ := hrel
    have k0 : (0 : Int) ≤ k := by omega
    by_cases h : k < l.length
    · obtain ⟨x, hx⟩ : ∃ x, l[k]? = some x := ⟨_, List.getElem?_eq_getElem h⟩
      obtain ⟨b, off, rfl, hcs⟩ := HC.out.1 (by omega)
      obtain ⟨x0, x1, x2, x3⟩ := hcs k x hx
      have X0 := cell_kept hkw x0
      have X1 := cell_kept hkw x1
      have X2 := cell_kept hkw x2
      have X3 := cell_kept hkw x3
      have k1 : (k : Int) < l.length := by omega
      obtain ⟨W1, hW1⟩ : ∃ W1, W1 = wr.alloc (.cells #[.string x.key, .int .i64 x.k, .string x.t, .int .i64 x.i] 66) := ⟨_, rfl⟩
      have hk1 : Kept (fun _ => False) w W1 := hkw.trans (by rw [hW1]; exact .alloc _ _ _) (fun _ _ e => e) (fun _ _ e => e)
      by_cases hM : k < m.length
      · obtain ⟨y, hy⟩ : ∃ y, m[k]? = some y := ⟨_, List.getElem?_eq_getElem hM⟩
        obtain ⟨b2, off2, rfl, hcs2⟩ := HC.out.2 (by omega)
        obtain ⟨y0, y1, y2, y3⟩ := hcs2 k y hy
        have k2 : (k : Int) < m.length := by omega
        have k3 : ¬ (k : Int) ≥ m.length := by omega
        have hst := listC_step (c := atrC) hx hy
        have hbx : W1.heap[wr.heap.size]? = some (.cells #[.string x.key, .int .i64 x.k, .string x.t, .int .i64 x.i] 66 (0, 0)) := by rw [hW1]; exact heap_alloc_new wr _
        obtain ⟨W2, hW2⟩ : ∃ W2, W2 = W1.alloc (.cells #[.string y.key, .int .i64 y.k, .string y.t, .int .i64 y.i] 66) := ⟨_, rfl⟩
        have hk2 : Kept (fun _ => False) W1 W2 := by rw [hW2]; exact .alloc _ _ _
        have hby : W2.heap[W1.heap.size]? = some (.cells #[.string y.key, .int .i64 y.k, .string y.t, .int .i64 y.i] 66 (0, 0)) := by rw [hW2]; exact heap_alloc_new W1 _
        have hbx2 := blk_kept hk2 hbx (fun e => e)
        have Y0 := cell_kept hk1 y0
        have Y1 := cell_kept hk1 y1
        have Y2 := cell_kept hk1 y2
        have Y3 := cell_kept hk1 y3
        have Z0 : W2.cell? ⟨wr.heap.size, 0, none⟩ = some (.string x.key) := (blk_cell hbx2 0).trans rfl
        have V0 : W2.cell? ⟨W1.heap.size, 0, none⟩ = some (.string y.key) := (blk_cell hby 0).trans rfl
        have Z1 : W2.cell? ⟨wr.heap.size, 1, none⟩ = some (.int .i64 x.k) := (blk_cell hbx2 1).trans rfl
        have V1 : W2.cell? ⟨W1.heap.size, 1, none⟩ = some (.int .i64 y.k) := (blk_cell hby 1).trans rfl
        have Z2 : W2.cell? ⟨wr.heap.size, 2, none⟩ = some (.string x.t) := (blk_cell hbx2 2).trans rfl
        have V2 : W2.cell? ⟨W1.heap.size, 2, none⟩ = some (.string y.t) := (blk_cell hby 2).trans rfl
        have Z3 : W2.cell? ⟨wr.heap.size, 3, none⟩ = some (.int .i64 x.i) := (blk_cell hbx2 3).trans rfl
        have V3 : W2.cell? ⟨W1.heap.size, 3, none⟩ = some (.int .i64 y.i) := (blk_cell hby 3).trans rfl
        have hW1' := hW1.symm
        have hW2' := hW2.symm
        have HK := Lib.hid (hk1.trans hk2 (U := fun _ => False) (fun _ _ e => e) (fun _ _ e => e))
        have HS := Lib.hid hst
        have HO := Lib.hid ho
        clear hW1 hW2 hk1 hk2 hbx hbx2 hby hst ho hx hy hcs hcs2 hkw h hM x0 x1 x2 x3 y0 y1 y2 y3
        go_wp2_with fail
        refine (attrs_any x y W2).mono ?_
        rintro e w3 ⟨rfl, hk3⟩
        have HK3 := Lib.hid (HK.out.trans hk3 (U := fun _ => False) (fun _ _ e => e) (fun _ _ e => e))
        clear hk3
        by_cases hz : atrC x y = 0
        · have HE : Hid (listC atrC l m = listC atrC (l.drop (k + 1)) (m.drop (k + 1))) := Lib.hid (by rw [HO.out, HS.out, if_pos hz])
          rw [hz]
          clear hz
          go_wp2_with fail
          exact ⟨⟨k + 1, by congr 1, by omega, HE.out, HK3.out, by omega⟩, by simp [intOf]; omega⟩
        · have HE : Hid (listC atrC l m = atrC x y) := Lib.hid (by rw [HO.out, HS.out, if_neg hz])
          obtain ⟨z, hzz⟩ : ∃ z, z = atrC x y := ⟨_, rfl⟩
          have hz2 : (z != 0) = true := by rw [bne_iff_ne, hzz]; exact hz
          rw [← hzz] at HE ⊢
          clear hz hzz
          go_wp2_with fail
          go_ret
          exact ⟨by rw [HE.out]; rfl, HK3.out⟩
      · have HE : Hid (listC atrC l m = 1) := Lib.hid (by rw [ho, listC_more hx (by omega)])
        have k3 : (k : Int) ≥ m.length := by omega
        have hW1' := hW1.symm
        have HK := Lib.hid hk1
        clear hW1 hk1 ho hx hcs hkw h hM x0 x1 x2 x3
        go_wp2_with fail
        go_ret
        exact ⟨by rw [HE.out]; rfl, HK.out⟩
    · have k1 : ¬ (k : Int) < l.length := by omega
      have he := listC_end (c := atrC) (l := l) (m := m) (k := k) (by omega)
      have HK := Lib.hid hkw
      by_cases hM : k < m.length
      · have HO : Hid (listC atrC l m = -1) := Lib.hid (by rw [ho, he, if_pos hM])
        have k2 : (l.length : Int) < m.length := by omega
        clear ho he h hM hkw
        go_wp2_with fail
        go_ret
        exact ⟨by rw [HO.out]; rfl, HK.out⟩
      · have HO : Hid (listC atrC l m = 0) := Lib.hid (by rw [ho, he, if_neg hM])
        have k2 : ¬ (l.length : Int) < m.length := by omega
        clear ho he h hM hkw
        go_wp2_with fail
        go_ret
        exact ⟨by rw [HO.out]; rfl, HK.out⟩
set_option maxHeartbeats 8000000 in
set_option maxRecDepth 100000 in
theorem cmpEvents_any (l m : List Evt) (v u : Value) (w : World) (hl : EReads w v l) (hm : EReads w u m) (h1 : l.length ≤ 9223372036854775807) (h2 : m.length ≤ 9223372036854775807) : Calls Tryd.prog 34 #[v, u, .func (.func 35) #[] #[]] w (IntPost (listC evtC l m) w) := by
  obtain ⟨A, c, rfl, hca⟩ := hl
  obtain ⟨B, d, rfl, hcb⟩ := hm
  have HC := Lib.hid (And.intro hca hcb)
  clear hca hcb
  go_enter Tryd.func34, Tryd.ntmps34
  go_wp2_with fail
  go_loopw [13] (fun i wr => ∃ k : Nat, i = .int .i64 k ∧ k ≤ l.length ∧ listC evtC l m = listC evtC (l.drop k) (m.drop k) ∧ Kept (fun _ => False) w wr ∧ k ≤ m.length) (fun i _ => l.length - (intOf i).toNat)
  case atStart => exact ⟨0, rfl, by omega, by simp, .refl _ _, by omega⟩
  case round =>
    obtain ⟨k, rfl, hk, ho, hkw, hkm⟩ := hrel
    have k0 : (0 : Int) ≤ k := by omega
    by_cases h : k < l.length
    · obtain ⟨x, hx⟩ : ∃ x, l[k]? = some x := ⟨_, List.getElem?_eq_getElem h⟩
      obtain ⟨b, off, rfl, hcs⟩ := HC.out.1 (by omega)
      obtain ⟨x0, x1⟩ := hcs k x hx
      have X0 := cell_kept hkw x0
      have X1 := cell_kept hkw x1
      have k1 : (k : Int) < l.length := by omega
      obtain ⟨W1, hW1⟩ : ∃ W1, W1 = wr.alloc (.cells #[.int .i64 x.at_, .string x.n] 68) := ⟨_, rfl⟩
      have hk1 : Kept (fun _ => False) w W1 := hkw.trans (by rw [hW1]; exact .alloc _ _ _) (fun _ _ e => e) (fun _ _ e => e)
      by_cases hM : k < m.length
      · obtain ⟨y, hy⟩ : ∃ y, m[k]? = some y := ⟨_, List.getElem?_eq_getElem hM⟩
        obtain ⟨b2, off2, rfl, hcs2⟩ := HC.out.2 (by omega)
        obtain ⟨y0, y1⟩ := hcs2 k y hy
        have k2 : (k : Int) < m.length := by omega
        have k3 : ¬ (k : Int) ≥ m.length := by omega
        have hst := listC_step (c := evtC) hx hy
        have hbx : W1.heap[wr.heap.size]? = some (.cells #[.int .i64 x.at_, .string x.n] 68 (0, 0)) := by rw [hW1]; exact heap_alloc_new wr _
        obtain ⟨W2, hW2⟩ : ∃ W2, W2 = W1.alloc (.cells #[.int .i64 y.at_, .string y.n] 68) := ⟨_, rfl⟩
        have hk2 : Kept (fun _ => False) W1 W2 := by rw [hW2]; exact .alloc _ _ _
        have hby : W2.heap[W1.heap.size]? = some (.cells #[.int .i64 y.at_, .string y.n] 68 (0, 0)) := by rw [hW2]; exact heap_alloc_new W1 _
        have hbx2 := blk_kept hk2 hbx (fun e => e)
        have Y0 := cell_kept hk1 y0
        have Y1 := cell_kept hk1 y1
        have Z0 : W2.cell? ⟨wr.heap.size, 0, none⟩ = some (.int .i64 x.at_) := (blk_cell hbx2 0).trans rfl
        have V0 : W2.cell? ⟨W1.heap.size, 0, none⟩ = some (.int .i64 y.at_) := (blk_cell hby 0).trans rfl
        have Z1 : W2.cell? ⟨wr.heap.size, 1, none⟩ = some (.string x.n) := (blk_cell hbx2 1).trans rfl
        have V1 : W2.cell? ⟨W1.heap.size, 1, none⟩ = some (.string y.n) := (blk_cell hby 1).trans rfl
        have hW1' := hW1.symm
        have hW2' := hW2.symm
        have HK := Lib.hid (hk1.trans hk2 (U := fun _ => False) (fun _ _ e => e) (fun _ _ e => e))
        have HS := Lib.hid hst
        have HO := Lib.hid ho
        clear hW1 hW2 hk1 hk2 hbx hbx2 hby hst ho hx hy hcs hcs2 hkw h hM x0 x1 y0 y1
        go_wp2_with fail
        refine (events_any x y W2).mono ?_
        rintro e w3 ⟨rfl, hk3⟩
        have HK3 := Lib.hid (HK.out.trans hk3 (U := fun _ => False) (fun _ _ e => e) (fun _ _ e => e))
        clear hk3
        by_cases hz : evtC x y = 0
        · have HE : Hid (listC evtC l m = listC evtC (l.drop (k + 1)) (m.drop (k + 1))) := Lib.hid (by rw [HO.out, HS.out, if_pos hz])
          rw [hz]
          clear hz
          go_wp2_with fail
          exact ⟨⟨k + 1, by congr 1, by omega, HE.out, HK3.out, by omega⟩, by simp [intOf]; omega⟩
        · have HE : Hid (listC evtC l m = evtC x y) := Lib.hid (by rw [HO.out, HS.out, if_neg hz])
          obtain ⟨z, hzz⟩ : ∃ z, z = evtC x y := ⟨_, rfl⟩
          have hz2 : (z != 0) = true := by rw [bne_iff_ne, hzz]; exact hz
          rw [← hzz] at HE ⊢
          clear hz hzz
          go_wp2_with fail
          go_ret
          exact ⟨by rw [HE.out]; rfl, HK3.out⟩
      · have HE : Hid (listC evtC l m = 1) := Lib.hid (by rw [ho, listC_more hx (by omega)])
        have k3 : (k : Int) ≥ m.length := by omega
        have hW1' := hW1.symm
        have HK := Lib.hid hk1
        clear hW1 hk1 ho hx hcs hkw h hM x0 x1
        go_wp2_with fail
        go_ret
        exact ⟨by rw [HE.out]; rfl, HK.out⟩
    · have k1 : ¬ (k : Int) < l.length := by omega
      have he := listC_end (c := evtC) (l := l) (m := m) (k := k) (by omega)
      have HK := Lib.hid hkw
      by_cases hM : k < m.length
      · have HO : Hid (listC evtC l m = -1) := Lib.hid (by rw [ho, he, if_pos hM])
        have k2 : (l.length : Int) < m.length := by omega
        clear ho he h hM hkw
        go_wp2_with fail
        go_ret
        exact ⟨by rw [HO.out]; rfl, HK.out⟩
      · have HO : Hid (listC evtC l m = 0) := Lib.hid (by rw [ho, he, if_neg hM])
        have k2 : ¬ (l.length : Int) < m.length := by omega
        clear ho he h hM hkw
        go_wp2_with fail
        go_ret
        exact ⟨by rw [HO.out]; rfl, HK.out⟩
end Go.Proofs.YtniigjfimggobaaDoor
