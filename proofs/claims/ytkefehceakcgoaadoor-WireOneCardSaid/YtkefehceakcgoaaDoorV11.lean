/- A part is read back as it was written (the walk). -/
import Derived.Test.YtkefehceakcgoaaDoorV10
namespace Go.Proofs.YtkefehceakcgoaaDoor
open Go.RowKit
set_option linter.unusedVariables false
set_option linter.unusedSimpArgs false

structure Prt where
  k : Int
  m : Int
  u : Nat
  i : Int
  s : List Int
def Prt.cells (q : Prt) : List Value := [.int .i64 q.k, .int .i64 q.m, .int .u64 q.u, .int .i64 q.i, .string (strOfNums q.s)]
structure Prt.ok (q : Prt) : Prop where
  k0 : -9223372036854775808 ≤ q.k
  k1 : q.k < 9223372036854775808
  m0 : -9223372036854775808 ≤ q.m
  m1 : q.m < 9223372036854775808
  u1 : q.u < 18446744073709551616
  i0 : -9223372036854775808 ≤ q.i
  i1 : q.i < 9223372036854775808
  s0 : Bytes q.s
/-- The bytes that a part is written as. -/
def Prt.enc (q : Prt) : List Int :=
  if pickN q.k 4 = 0 then venc q.u else if pickN q.k 4 = 1 then venc (zig q.i).toNat else if pickN q.k 4 = 2 then venc (cleanL q.s).length ++ cleanL q.s else q.s
theorem pickN_lt (c : Int) (n : Nat) (hn : 0 < n) : pickN c n < n := Nat.mod_lt _ hn
theorem Prt.enc_len (q : Prt) (h : q.ok) (hs : q.s.length ≤ 2147483647) : q.enc.length ≤ 10 + q.s.length := by
  unfold Prt.enc
  have hc := cleanL_len q.s
  have hz := zig_range q.i h.i0 h.i1
  split
  · have := venc_len10 h.u1; omega
  · split
    · have := venc_len10 (show (zig q.i).toNat < 18446744073709551616 by omega); omega
    · split
      · have := venc_len10 (show (cleanL q.s).length < 18446744073709551616 by omega)
        rw [List.length_append]; omega
      · omega
def BackPost (B r n : Nat) (v : Value) (l : List Int) (w : World) (e : Ending) (w' : World) : Prop := e = .returned (.bool true) ∧ RdAt B w' r v l n ∧ Kept (fun i => i = r) w w'

theorem textR_written {l : List Int} {n most : Nat} {q rest : List Int} (he : l.drop n = (venc q.length ++ q) ++ rest) (hq : Runes q) (hm : q.length ≤ most) (h64 : q.length < 18446744073709551616) : textR l n most = .ok q (n + (venc q.length).length + q.length) := by
  have hl := congrArg List.length he
  rw [List.length_drop, List.length_append, List.length_append] at hl
  have hp := venc_pos q.length
  have e1 : numR (l.drop n) 0 0 = .ok q.length (venc q.length).length := by rw [he, List.append_assoc]; exact numR_venc _ _ h64
  have e2 : (l.drop (n + (venc q.length).length)).take q.length = q := by
    rw [← List.drop_drop, he, List.append_assoc, List.drop_left, List.take_left]
  unfold textR
  rw [if_neg (by omega), e1]
  simp only [textQ]
  rw [if_neg (by omega), if_neg (by omega), e2, badR_runes hq]
theorem rawR_written {l : List Int} {n : Nat} {q rest : List Int} (he : l.drop n = q ++ rest) : rawR l n q.length = .ok q (n + q.length) := by
  have hl := congrArg List.length he
  rw [List.length_drop, List.length_append] at hl
  unfold rawR
  rw [if_neg (by omega), if_neg (by omega), he, Int.toNat_natCast, List.take_left]

set_option maxHeartbeats 4000000 in
set_option maxRecDepth 100000 in
theorem back_any (B r n : Nat) (v : Value) (l rest : List Int) (q : Prt) (w : World) (hq : q.ok) (hs : q.s.length ≤ 2147483647) (h : RdAt B w r v l n) (hn : n ≤ l.length) (hl : l.length ≤ 1000000000000) (hb : Bytes l) (hU : Lib.Utf8Tabs 1 2 w) (hBr : 2 < B)
    (he : l.drop n = q.enc ++ rest) :
    Calls Tryd.prog 16 #[.agg q.cells.toArray, .pointer (some ⟨r, 0, none⟩)] w (BackPost B r (n + q.enc.length) v l w) := by
  have hp4 := pickN_lt q.k 4 (by decide)
  have hk1 : Kept (fun _ => False) w (w.alloc (.cells q.cells.toArray 28)) := .alloc _ _ _
  obtain ⟨w1, hw1⟩ : ∃ w1, w1 = w.alloc (.cells q.cells.toArray 28) := ⟨_, rfl⟩
  have hb1 : w1.heap[w.heap.size]? = some (.cells q.cells.toArray 28 (0, 0)) := by rw [hw1]; exact heap_alloc_new w _
  have c0 : w1.cell? ⟨w.heap.size, 0, none⟩ = some (.int .i64 q.k) := (blk_cell hb1 0).trans rfl
  have c1 : w1.cell? ⟨w.heap.size, 1, none⟩ = some (.int .i64 q.m) := (blk_cell hb1 1).trans rfl
  have c2 : w1.cell? ⟨w.heap.size, 2, none⟩ = some (.int .u64 q.u) := (blk_cell hb1 2).trans rfl
  have c3 : w1.cell? ⟨w.heap.size, 3, none⟩ = some (.int .i64 q.i) := (blk_cell hb1 3).trans rfl
  have c4 : w1.cell? ⟨w.heap.size, 4, none⟩ = some (.string (strOfNums q.s)) := (blk_cell hb1 4).trans rfl
  rw [← hw1] at hk1
  have hw2 := hw1.symm
  clear hw1
  have h1 := h.kept hk1 (by simp) (by simp)
  have hU1 := Utf8Tabs.kept hU hk1 (by simp) (by simp)
  have hrw : r < w.heap.size := blk_lt h.blk
  have hlt := h1.lies.lt
  have hne : ¬ w.heap.size = r := by omega
  have hcs : ∀ w2, Kept (fun i => i = r) w1 w2 → w2.cell? ⟨w.heap.size, 1, none⟩ = some (.int .i64 q.m) ∧ w2.cell? ⟨w.heap.size, 2, none⟩ = some (.int .u64 q.u) ∧ w2.cell? ⟨w.heap.size, 3, none⟩ = some (.int .i64 q.i) ∧ w2.cell? ⟨w.heap.size, 4, none⟩ = some (.string (strOfNums q.s)) := fun w2 hk2 => by
    have hb2 := blk_kept hk2 hb1 hne
    exact ⟨(blk_cell hb2 1).trans rfl, (blk_cell hb2 2).trans rfl, (blk_cell hb2 3).trans rfl, (blk_cell hb2 4).trans rfl⟩
  have hfin : ∀ w2 m, RdAt B w2 r v l m → Kept (fun i => i = r) w1 w2 → BackPost B r m v l w (.returned (.bool true)) w2 := fun w2 m hr2 hk2 => ⟨rfl, hr2, hk1.trans hk2 (fun _ _ e => e.elim) (fun _ _ e => e)⟩
  have HC := Lib.hid (And.intro hcs hfin)
  clear hcs hfin
  by_cases hk0 : pickN q.k 4 = 0
  · have ee : q.enc = venc q.u := by unfold Prt.enc; rw [if_pos hk0]
    have hnr : numR (l.drop n) 0 0 = .ok q.u (venc q.u).length := by rw [he, ee]; exact numR_venc _ _ hq.u1
    rw [ee]
    have HX := Lib.hid (And.intro hq (And.intro h1 (And.intro hk1 hnr)))
    have HKK := Lib.hid hk0
    clear h1 hk1 hnr ee he hU hU1 h hk0 hp4
    go_enter Tryd.func16, Tryd.ntmps16
    go_wp2_with fail
    refine (pick_any q.k 4 w1 (by decide) (by decide) HX.out.1.k0 HX.out.1.k1).mono ?_
    rintro e w' ⟨rfl, hw'⟩
    obtain rfl : w1 = w' := hw'.symm
    rw [HKK.out]
    go_wp2_with fail
    refine (get_any B r n v l w1 HX.out.2.1 hn (by omega) hb).mono ?_
    intro e w2 hg
    unfold GetPost at hg
    rw [HX.out.2.2.2] at hg
    obtain ⟨rfl, hr2, hk2⟩ := hg
    obtain ⟨d1, d2, d3, d4⟩ := HC.out.1 w2 hk2
    have HE := Lib.hid (HC.out.2 w2 _ hr2 hk2)
    clear hr2 hk2
    go_wp2_with fail
    go_ret
    exact HE.out
  · by_cases hk1' : pickN q.k 4 = 1
    · have ee : q.enc = venc (zig q.i).toNat := by unfold Prt.enc; rw [if_neg hk0, if_pos hk1']
      have hz := zig_range q.i hq.i0 hq.i1
      have hzz : ((zig q.i).toNat : Int) = zig q.i := Int.toNat_of_nonneg hz.1
      have hnr : numR (l.drop n) 0 0 = .ok (zig q.i).toNat (venc (zig q.i).toNat).length := by rw [he, ee]; exact numR_venc _ _ (by omega)
      rw [ee]
      have hzg : zag ((zig q.i).toNat : Int) = q.i := by rw [hzz, zagzig]
      have HX := Lib.hid (And.intro hq (And.intro h1 (And.intro hk1 (And.intro hnr hzg))))
      have HKK := Lib.hid hk1'
      clear h1 hk1 hnr ee he hU hU1 h hk0 hp4 hk1' hz hzz hzg
      go_enter Tryd.func16, Tryd.ntmps16
      go_wp2_with fail
      refine (pick_any q.k 4 w1 (by decide) (by decide) HX.out.1.k0 HX.out.1.k1).mono ?_
      rintro e w' ⟨rfl, hw'⟩
      obtain rfl : w1 = w' := hw'.symm
      rw [HKK.out]
      go_wp2_with fail
      refine (getInt_any B r n v l w1 HX.out.2.1 hn (by omega) hb).mono ?_
      intro e w2 hg
      unfold GetIntPost at hg
      rw [HX.out.2.2.2.1] at hg
      obtain ⟨rfl, hr2, hk2⟩ := hg
      rw [HX.out.2.2.2.2]
      obtain ⟨d1, d2, d3, d4⟩ := HC.out.1 w2 hk2
      have HE := Lib.hid (HC.out.2 w2 _ hr2 hk2)
      clear hr2 hk2
      go_wp2_with fail
      go_ret
      exact HE.out
    · by_cases hk2' : pickN q.k 4 = 2
      · have ee : q.enc = venc (cleanL q.s).length ++ cleanL q.s := by unfold Prt.enc; rw [if_neg hk0, if_neg hk1', if_pos hk2']
        have hcl := cleanL_len q.s
        have hpm := pickN_lt q.m 1099511627776 (by decide)
        have hnr := fun most hm => textR_written (most := most) (he.trans (by rw [ee])) (runes_clean q.s) hm (by omega)
        rw [ee, List.length_append, ← Nat.add_assoc]
        have HX := Lib.hid (And.intro hq (And.intro h1 (And.intro hk1 hnr)))
        have HKK := Lib.hid hk2'
        have hcs : (strOfNums (cleanL q.s)).size = (cleanL q.s).length := strOfNums_size _
        have HU := Lib.hid hU1
        obtain ⟨C, hC⟩ : ∃ C, C = cleanL q.s := ⟨_, rfl⟩
        rw [← hC] at HX hcs hcl ⊢
        have hC1 : (C.length : Int) ≤ 2147483647 := by omega
        obtain ⟨pm, hpmm⟩ : ∃ pm, pm = pickN q.m 1099511627776 := ⟨_, rfl⟩
        rw [← hpmm] at hpm
        have HPM := Lib.hid hpmm
        have HCC := Lib.hid hC
        have hp1 : (pm : Int) < 1099511627776 := by omega
        clear h1 hk1 hnr ee he hU hU1 h hk0 hp4 hk1' hk2' hpmm hC
        go_enter Tryd.func16, Tryd.ntmps16
        go_wp2_with fail
        refine (pick_any q.k 4 w1 (by decide) (by decide) HX.out.1.k0 HX.out.1.k1).mono ?_
        rintro e w' ⟨rfl, hw'⟩
        obtain rfl : w1 = w' := hw'.symm
        rw [HKK.out]
        go_wp2_with fail
        refine (clean_any q.s w1 HX.out.1.s0 (by omega)).mono ?_
        rintro e w2 ⟨rfl, hk2⟩
        rw [← HCC.out]
        have hkr : Kept (fun i => i = r) w1 w2 := hk2.mono (fun _ _ e => e.elim)
        obtain ⟨d1, d2, d3, d4⟩ := HC.out.1 w2 hkr
        have hr2 := HX.out.2.1.kept hk2 (by simp) (by simp)
        have hU2 := Utf8Tabs.kept HU.out hk2 (by simp) (by simp)
        have H2 := Lib.hid (And.intro hk2 (And.intro hr2 hU2))
        clear hk2 hkr hr2 hU2
        go_wp2_with fail
        refine (pick_any q.m 1099511627776 w2 (by decide) (by decide) HX.out.1.m0 HX.out.1.m1).mono ?_
        rintro e w3 ⟨rfl, hw3⟩
        obtain rfl : w2 = w3 := hw3.symm
        rw [← HPM.out]
        go_wp2_with fail
        rw [show (C.length : Int) + pm = ((C.length + pm : Nat) : Int) by omega]
        refine (getText_any B r n v l _ w2 H2.out.2.1 hn (by omega) hb (by omega) (by omega) H2.out.2.2).mono ?_
        intro e w3 hg
        unfold TextPost at hg
        rw [HX.out.2.2.2 _ (by omega)] at hg
        obtain ⟨rfl, hr3, hk3⟩ := hg
        have hk13 : Kept (fun i => i = r) w1 w3 := H2.out.1.trans hk3 (fun _ _ e => e.elim) (fun _ _ e => e)
        have HE := Lib.hid (HC.out.2 w3 _ hr3 hk13)
        clear hr3 hk3 hk13
        go_wp2_with fail
        go_ret
        exact HE.out
      · have ee : q.enc = q.s := by unfold Prt.enc; rw [if_neg hk0, if_neg hk1', if_neg hk2']
        have hk3' : pickN q.k 4 = 3 := by omega
        have hnr := rawR_written (he.trans (by rw [ee]))
        rw [ee]
        have HX := Lib.hid (And.intro hq (And.intro h1 (And.intro hk1 hnr)))
        have HKK := Lib.hid hk3'
        have hcs : (strOfNums q.s).size = q.s.length := strOfNums_size _
        clear h1 hk1 hnr ee he hU hU1 h hk0 hp4 hk1' hk2' hk3'
        go_enter Tryd.func16, Tryd.ntmps16
        go_wp2_with fail
        refine (pick_any q.k 4 w1 (by decide) (by decide) HX.out.1.k0 HX.out.1.k1).mono ?_
        rintro e w' ⟨rfl, hw'⟩
        obtain rfl : w1 = w' := hw'.symm
        rw [HKK.out]
        go_wp2_with fail
        refine (getRaw_any B r n v l _ w1 HX.out.2.1 hn (by omega) (by omega) (by omega)).mono ?_
        intro e w2 hg
        unfold RawPost at hg
        rw [HX.out.2.2.2] at hg
        obtain ⟨v2, rfl, ho2, hr2, hk2⟩ := hg
        obtain ⟨d1, d2, d3, d4⟩ := HC.out.1 w2 hk2
        have hcv := (Lies.of_own ho2).string (dst := 9) Tryd.underlying35 Tryd.underlying5 Tryd.underlying9
        obtain ⟨A2, c2', rfl⟩ := own_slice ho2
        have HE := Lib.hid (HC.out.2 w2 _ hr2 hk2)
        clear hr2 hk2 ho2
        go_wp2_with fail
        go_ret
        exact HE.out
end Go.Proofs.YtkefehceakcgoaaDoor
