/- Decode (the walk). -/
import Derived.Test.YtniigjfimggobaaDoorD4c
import Derived.Test.YtniigjfimggobaaDoorM
namespace Go.Proofs.YtniigjfimggobaaDoor
open Go.RowKit
set_option linter.unusedVariables false
set_option linter.unusedSimpArgs false

set_option maxHeartbeats 32000000 in
set_option maxRecDepth 100000 in
theorem decode_any (y : Value) (L : List Int) (w : World) (hr : Reads w y L) (hl : L.length ≤ 140737488355328) (hb : Bytes L) (hU : Lib.Utf8Tabs 0 1 w) : Calls Tryd.prog 15 #[y] w (DecPost L w) := by
  have HU := Lib.hid hU
  have HR := Lib.hid hr
  obtain ⟨i0, hi, hz0, hz1, hz2⟩ := info_parts inf26
  obtain ⟨ia0, ia, iaz0, iaz1, iaz2⟩ := info_parts inf66
  obtain ⟨ie0, ie, iez0, iez1, iez2⟩ := info_parts inf68
  clear hU hr
  go_enter Tryd.func15, Tryd.ntmps15
  go_upto_region 1 with fail
  obtain ⟨W0, hW0⟩ : ∃ W0, W0 = w.alloc (.cells zcells 33) := ⟨_, rfl⟩
  rw [show w.alloc (.cells #[.int .u64 0, .int .u64 0, .int .u64 0, .int .u64 0, .slice none 0 0, .string ⟨#[]⟩, .string ⟨#[]⟩, .int .i64 0, .int .i64 0, .int .i64 0, .int .i64 0, .slice none 0 0, .slice none 0 0] 33) = W0 from hW0.symm]
  have hk0 : Kept (fun _ => False) w W0 := by rw [hW0]; exact .alloc _ _ _
  have hr0 : W0.heap[w.heap.size]? = some (.cells zcells 33 (0, 0)) := by rw [hW0]; exact heap_alloc_new w _
  have HR0 := Lib.hid (Reads.kept HR.out hk0)
  have H0 := Lib.hid (And.intro hk0 hr0)
  clear hW0 hk0 hr0
  go_upto_region 2 with (go_at_call 42; (with_reducible refine (newReader_any y L W0 HR0.out hl).mono ?_); rintro e w1 ⟨r, v, rfl, hrd, hk1⟩; have H1 := Lib.hid (And.intro hrd hk1); clear hrd hk1)
  obtain ⟨W1, hW1⟩ : ∃ W1, W1 = w1.alloc (.cells #[.pointer (some ⟨r, 0, none⟩), .nilIface] 94) := ⟨_, rfl⟩
  rw [← hW1]
  have hq1 : W1.heap[w1.heap.size]? = some (.cells #[.pointer (some ⟨r, 0, none⟩), .nilIface] 94 (0, 0)) := by rw [hW1]; exact heap_alloc_new w1 _
  have hk1 : Kept (fun _ => False) w1 W1 := by rw [hW1]; exact .alloc _ _ _
  have hs1 : W1.heap.size = w1.heap.size + 1 := by rw [hW1]; simp
  clear hW1
  go_upto_region 3 with fail
  obtain ⟨W2, hW2⟩ : ∃ W2, W2 = W1.alloc (.cells zcells 33) := ⟨_, rfl⟩
  rw [show W1.alloc (.cells #[.int .u64 0, .int .u64 0, .int .u64 0, .int .u64 0, .slice none 0 0, .string ⟨#[]⟩, .string ⟨#[]⟩, .int .i64 0, .int .i64 0, .int .i64 0, .int .i64 0, .slice none 0 0, .slice none 0 0] 33) = W2 from hW2.symm]
  have hs2 : W2.heap[W1.heap.size]? = some (.cells zcells 33 (0, 0)) := by rw [hW2]; exact heap_alloc_new W1 _
  have hk2 : Kept (fun _ => False) W1 W2 := by rw [hW2]; exact .alloc _ _ _
  clear hW2
  obtain ⟨B, hB⟩ : ∃ B, B = W0.heap.size := ⟨_, rfl⟩
  obtain ⟨q, hq⟩ : ∃ q, q = w1.heap.size := ⟨_, rfl⟩
  obtain ⟨sb, hsb⟩ : ∃ sb, sb = W1.heap.size := ⟨_, rfl⟩
  obtain ⟨rb, hrb⟩ : ∃ rb, rb = w.heap.size := ⟨_, rfl⟩
  have hk12 := hk1.trans hk2 (U := fun _ => False) (fun _ _ e => e) (fun _ _ e => e)
  have hD : DecAt B q r v L sb rb w W2 ⟨0, 0, 0, 0, [], ⟨#[]⟩, ⟨#[]⟩, 0, 0, 0, 0, [], []⟩ (.slice none 0 0) (.slice none 0 0) (.slice none 0 0) (.ok 0) := by
    have hge := H1.out.2.size
    have hge0 := H0.out.1.size
    have hrr := H1.out.1.base
    subst hB hq hsb hrb
    refine ⟨⟨.nilIface, 0, blk_kept hk2 hq1 (fun h => h), (H1.out.1.kept hk12 (fun h => h) (fun _ _ h => h)), by omega, rfl, rfl⟩, hs2, blk_kept hk12 (blk_kept H1.out.2 H0.out.2 (fun h => h)) (fun h => h), by have := blk_lt H0.out.2; omega, (H0.out.1.trans H1.out.2 (fun _ _ e => e) (fun _ _ e => e)).trans hk12 (fun _ _ e => e) (fun _ _ e => e), ⟨by omega, by omega, by omega, by omega⟩, ⟨rfl, .inl ⟨rfl, rfl⟩⟩, ⟨rfl, .inl ⟨rfl, rfl⟩⟩, ⟨rfl, .inl ⟨rfl, rfl⟩⟩⟩
  have hq1b : q + 1 = sb := by rw [hsb, hs1, hq]
  rw [← hq, hq1b]
  subst hrb
  have HD := Lib.hid hD
  clear hD hk1 hk2 hk12 hs1 hs2 hq1 H1 H0 HR0 HR hB hq hsb hq1b
  obtain ⟨p1, hp1⟩ : ∃ p, p = eightP L (.ok 0) := ⟨_, rfl⟩
  have C := eight_any B q r v L (.ok 0) W2 HD.out.src hl hb
  rw [← hp1] at C
  have HP1 := Lib.hid hp1
  have HC := Lib.hid C
  clear C hp1
  go_upto_region 4 with (go_at_call 43; (with_reducible refine HC.out.mono ?_); rintro e w1 ⟨rfl, hs1, hk1⟩; have D1 := HD.out.read hs1 hk1; have g1 := blk_frozen D1.sp 0; have g2 : w1.cell? ⟨sb, 0, none⟩ = some (.int .u64 0) := (blk_cell D1.sp 0).trans rfl; have HD1 := Lib.hid D1; clear D1 hs1 hk1)
  obtain ⟨X1, hX⟩ : ∃ X, X = w1.setCell ⟨sb, 0, none⟩ (.int .u64 p1.1) := ⟨_, rfl⟩
  rw [← hX]
  have hD := (show DecAt B q r v L sb w.heap.size w X1 ⟨p1.1, 0, 0, 0, [], ⟨#[]⟩, ⟨#[]⟩, 0, 0, 0, 0, [], []⟩ (.slice none 0 0) (.slice none 0 0) (.slice none 0 0) p1.2 from by rw [hX]; exact HD1.out.put 0 _ _ rfl rfl rfl rfl)
  clear HD HD1 HC hX g1 g2
  have HD := Lib.hid hD
  clear hD
  obtain ⟨p2, hp2⟩ : ∃ p, p = eightP L p1.2 := ⟨_, rfl⟩
  have C := eight_any B q r v L p1.2 X1 HD.out.src hl hb
  rw [← hp2] at C
  have HP2 := Lib.hid hp2
  have HC := Lib.hid C
  clear C hp2
  go_upto_region 5 with (go_at_call 43; (with_reducible refine HC.out.mono ?_); rintro e w1 ⟨rfl, hs1, hk1⟩; have D1 := HD.out.read hs1 hk1; have g1 := blk_frozen D1.sp 1; have g2 : w1.cell? ⟨sb, 1, none⟩ = some (.int .u64 0) := (blk_cell D1.sp 1).trans rfl; have HD1 := Lib.hid D1; clear D1 hs1 hk1)
  obtain ⟨X2, hX⟩ : ∃ X, X = w1.setCell ⟨sb, 1, none⟩ (.int .u64 p2.1) := ⟨_, rfl⟩
  rw [← hX]
  have hD := (show DecAt B q r v L sb w.heap.size w X2 ⟨p1.1, p2.1, 0, 0, [], ⟨#[]⟩, ⟨#[]⟩, 0, 0, 0, 0, [], []⟩ (.slice none 0 0) (.slice none 0 0) (.slice none 0 0) p2.2 from by rw [hX]; exact HD1.out.put 1 _ _ rfl rfl rfl rfl)
  clear HD HD1 HC hX g1 g2
  have HD := Lib.hid hD
  clear hD
  obtain ⟨p3, hp3⟩ : ∃ p, p = eightP L p2.2 := ⟨_, rfl⟩
  have C := eight_any B q r v L p2.2 X2 HD.out.src hl hb
  rw [← hp3] at C
  have HP3 := Lib.hid hp3
  have HC := Lib.hid C
  clear C hp3
  go_upto_region 6 with (go_at_call 43; (with_reducible refine HC.out.mono ?_); rintro e w1 ⟨rfl, hs1, hk1⟩; have D1 := HD.out.read hs1 hk1; have g1 := blk_frozen D1.sp 2; have g2 : w1.cell? ⟨sb, 2, none⟩ = some (.int .u64 0) := (blk_cell D1.sp 2).trans rfl; have HD1 := Lib.hid D1; clear D1 hs1 hk1)
  obtain ⟨X3, hX⟩ : ∃ X, X = w1.setCell ⟨sb, 2, none⟩ (.int .u64 p3.1) := ⟨_, rfl⟩
  rw [← hX]
  have hD := (show DecAt B q r v L sb w.heap.size w X3 ⟨p1.1, p2.1, p3.1, 0, [], ⟨#[]⟩, ⟨#[]⟩, 0, 0, 0, 0, [], []⟩ (.slice none 0 0) (.slice none 0 0) (.slice none 0 0) p3.2 from by rw [hX]; exact HD1.out.put 2 _ _ rfl rfl rfl rfl)
  clear HD HD1 HC hX g1 g2
  have HD := Lib.hid hD
  clear hD
  obtain ⟨p4, hp4⟩ : ∃ p, p = eightP L p3.2 := ⟨_, rfl⟩
  have C := eight_any B q r v L p3.2 X3 HD.out.src hl hb
  rw [← hp4] at C
  have HP4 := Lib.hid hp4
  have HC := Lib.hid C
  clear C hp4
  go_upto_region 7 with (go_at_call 43; (with_reducible refine HC.out.mono ?_); rintro e w1 ⟨rfl, hs1, hk1⟩; have D1 := HD.out.read hs1 hk1; have g1 := blk_frozen D1.sp 3; have g2 : w1.cell? ⟨sb, 3, none⟩ = some (.int .u64 0) := (blk_cell D1.sp 3).trans rfl; have HD1 := Lib.hid D1; clear D1 hs1 hk1)
  obtain ⟨X4, hX⟩ : ∃ X, X = w1.setCell ⟨sb, 3, none⟩ (.int .u64 p4.1) := ⟨_, rfl⟩
  rw [← hX]
  have hD := (show DecAt B q r v L sb w.heap.size w X4 ⟨p1.1, p2.1, p3.1, p4.1, [], ⟨#[]⟩, ⟨#[]⟩, 0, 0, 0, 0, [], []⟩ (.slice none 0 0) (.slice none 0 0) (.slice none 0 0) p4.2 from by rw [hX]; exact HD1.out.put 3 _ _ rfl rfl rfl rfl)
  clear HD HD1 HC hX g1 g2
  have HD := Lib.hid hD
  clear hD
  obtain ⟨p5, hp5⟩ : ∃ p, p = manyP L 16 45 p4.2 := ⟨_, rfl⟩
  have C : Calls Tryd.prog 44 #[.pointer (some ⟨q, 0, none⟩), .int .u64 16, .int .i64 45] X4 _ := many_any B q r v L p4.2 16 45 X4 HD.out.src hl hb (by omega)
  have hle5 : p5.1 ≤ 16 := by rw [hp5]; exact manyP_le _ _ _ _
  rw [← hp5] at C
  have HP5 := Lib.hid hp5
  have HC := Lib.hid C
  clear C hp5
  go_upto_region 8 with (go_at_call 44; (with_reducible refine HC.out.mono ?_); rintro e w1 ⟨rfl, hs1, hk1⟩; have D1 := HD.out.read hs1 hk1; have HD1 := Lib.hid D1; clear D1 hs1 hk1)
  clear HD HC
  have HD := HD1
  clear HD1
  go_loopw [29] (fun i wr => ∃ (k : Nat) (lv : Value), i = .int .i64 k ∧ k ≤ p5.1 ∧ DecAt B q r v L sb w.heap.size w wr ⟨p1.1, p2.1, p3.1, p4.1, (iterP (eightP L) k p5.2).1, ⟨#[]⟩, ⟨#[]⟩, 0, 0, 0, 0, [], []⟩ (lv) (.slice none 0 0) (.slice none 0 0) (iterP (eightP L) k p5.2).2) (fun i _ => p5.1 - (intOf i).toNat)
  case atStart => exact ⟨0, .slice none 0 0, rfl, Nat.zero_le _, HD.out⟩
  obtain ⟨k, lv, rfl, hk, hDr⟩ := hrel
  have k0 : (0 : Int) ≤ k := by omega
  clear HD
  by_cases hkN : k < p5.1
  · obtain ⟨P, hP⟩ : ∃ P, P = iterP (eightP L) k p5.2 := ⟨_, rfl⟩
    have hPl : P.1.length = k := by rw [hP]; exact iterP_len _ _ _
    rw [← hP] at hDr
    have HP := Lib.hid hP
    have k1 : k < p5.1 := hkN
    have k2 : P.1.length ≤ 1000 := by omega
    have HPL := Lib.hid hPl
    clear hP hkN hPl
    obtain ⟨lA, lc, rfl⟩ := own_slice hDr.ll
    obtain ⟨x, hx⟩ : ∃ x, x = eightP L P.2 := ⟨_, rfl⟩
    have hDr := hDr.other (Kept.drew (fun _ => False) wr) (fun _ h => h.elim)
    have C := eight_any B q r v L P.2 wr.drew hDr.src hl hb
    rw [← hx] at C
    have HC := Lib.hid C
    have HD := Lib.hid hDr
    have HX := Lib.hid hx
    have f4 : wr.drew.cell? ⟨sb, 4, none⟩ = some (.slice lA P.1.length lc) := (blk_cell hDr.sp 4).trans rfl
    have hone : ∀ u ∈ (#[Value.int .u64 x.1] : Array Value).toList, u.oneCell' = true := by intro u hu; simp at hu; subst hu; rfl
    have h8 : 8 ≤ 1000 := by omega
    clear C hDr hx
    go_upto_region 9 with fail
    go_region_law (first
      | (refine step_append_one rfl _ _ 27 rfl w.heap.size 26 i0 (.int .u64 0) 1 8 Tryd.underlying27 hi hz0 hz1 hz2 rfl (by decide) (.slice lA P.1.length lc) P.1.length (P.1.flatMap linkV) #[.int .u64 x.1] 1 rfl rfl rfl hone oL k2 h8 hBw ?_; intro A' c' w2 hown2 hg2; have hsp := (HD1.out.alloc (.cells #[.int .u64 x.1] 26)).spL hg2; have x1 := blk_frozen hsp 4; have x2 : w2.cell? ⟨sb, 4, none⟩ = some (.slice lA P.1.length lc) := (blk_cell hsp 4).trans rfl; have HG := Lib.hid (And.intro hown2 hg2); clear hown2 hg2 hsp)
      | (go_simp; (with_reducible refine HC.out.mono ?_); rintro e w1 ⟨rfl, hs1, hk1⟩; have D1 := HD.out.read hs1 hk1; have f5 : w1.cell? ⟨sb, 4, none⟩ = some (.slice lA P.1.length lc) := (blk_cell D1.sp 4).trans rfl; have f6 : ∀ o, (w1.alloc o).cell? ⟨sb, 4, none⟩ = some (.slice lA P.1.length lc) := fun o => (blk_cell (D1.alloc o).sp 4).trans rfl; have oL := D1.ll; have hBw := (Nat.le_trans D1.ge.2.2.1 (Nat.le_of_lt (blk_lt D1.sp))); have HD1 := Lib.hid D1; clear D1 hs1 hk1; try go_simp))
    all_goals
      have hfin := (HD1.out.alloc (.cells #[.int .u64 x.1] 26)).pushL HG.out.1 HG.out.2
      have HF := Lib.hid hfin
      clear hfin
      go_wp2_with fail
      refine ⟨⟨k + 1, .slice A' (P.1.length + 1) c', by congr 1, by omega, ?_⟩, by simp [intOf]; omega⟩
      have e1 : iterP (eightP L) (k + 1) p5.2 = (P.1 ++ [x.1], x.2) := by rw [HX.out, HP.out]; rfl
      rw [e1]
      exact HF.out
  have k1 : ¬ k < p5.1 := hkN
  have hkE : k = p5.1 := by omega
  rw [hkE] at hDr
  obtain ⟨l5, hl5⟩ : ∃ P, P = iterP (eightP L) p5.1 p5.2 := ⟨_, rfl⟩
  rw [← hl5] at hDr
  have HL5 := Lib.hid hl5
  have HD := Lib.hid hDr
  clear hDr hl5 hkE hk hkN
  obtain ⟨V5, rfl⟩ : ∃ W : World, W = wr := ⟨_, rfl⟩
  obtain ⟨p6, hp6⟩ : ∃ p, p = txtP L 60 l5.2 := ⟨_, rfl⟩
  have C := txt_any B q r v L l5.2 60 V5 HD.out.src hl hb (by omega) (by omega) (Utf8Tabs.kept HU.out HD.out.kept (fun h => h) (fun h => h))
  rw [← hp6] at C
  have HP6 := Lib.hid hp6
  have HC := Lib.hid C
  clear C hp6
  go_upto_region 12 with (go_at_call 45; (with_reducible refine HC.out.mono ?_); rintro e w1 ⟨rfl, hs1, hk1⟩; have D1 := HD.out.read hs1 hk1; have g1 := blk_frozen D1.sp 5; have g2 : w1.cell? ⟨sb, 5, none⟩ = some (.string ⟨#[]⟩) := (blk_cell D1.sp 5).trans rfl; have HD1 := Lib.hid D1; clear D1 hs1 hk1)
  obtain ⟨X6, hX⟩ : ∃ X, X = w1.setCell ⟨sb, 5, none⟩ (.string (strOfNums p6.1)) := ⟨_, rfl⟩
  rw [← hX]
  have hD := (show DecAt B q r v L sb w.heap.size w X6 ⟨p1.1, p2.1, p3.1, p4.1, l5.1, strOfNums p6.1, ⟨#[]⟩, 0, 0, 0, 0, [], []⟩ (lv) (.slice none 0 0) (.slice none 0 0) p6.2 from by rw [hX]; exact HD1.out.put 5 _ _ rfl rfl rfl rfl)
  clear HD HD1 HC hX g1 g2
  have HD := Lib.hid hD
  clear hD
  obtain ⟨p7, hp7⟩ : ∃ p, p = txtP L 100 p6.2 := ⟨_, rfl⟩
  have C := txt_any B q r v L p6.2 100 X6 HD.out.src hl hb (by omega) (by omega) (Utf8Tabs.kept HU.out HD.out.kept (fun h => h) (fun h => h))
  rw [← hp7] at C
  have HP7 := Lib.hid hp7
  have HC := Lib.hid C
  clear C hp7
  go_upto_region 13 with (go_at_call 45; (with_reducible refine HC.out.mono ?_); rintro e w1 ⟨rfl, hs1, hk1⟩; have D1 := HD.out.read hs1 hk1; have g1 := blk_frozen D1.sp 6; have g2 : w1.cell? ⟨sb, 6, none⟩ = some (.string ⟨#[]⟩) := (blk_cell D1.sp 6).trans rfl; have HD1 := Lib.hid D1; clear D1 hs1 hk1)
  obtain ⟨X7, hX⟩ : ∃ X, X = w1.setCell ⟨sb, 6, none⟩ (.string (strOfNums p7.1)) := ⟨_, rfl⟩
  rw [← hX]
  have hD := (show DecAt B q r v L sb w.heap.size w X7 ⟨p1.1, p2.1, p3.1, p4.1, l5.1, strOfNums p6.1, strOfNums p7.1, 0, 0, 0, 0, [], []⟩ (lv) (.slice none 0 0) (.slice none 0 0) p7.2 from by rw [hX]; exact HD1.out.put 6 _ _ rfl rfl rfl rfl)
  clear HD HD1 HC hX g1 g2
  have HD := Lib.hid hD
  clear hD
  obtain ⟨p8, hp8⟩ : ∃ p, p = numP L p7.2 := ⟨_, rfl⟩
  have C := num_any B q r v L p7.2 X7 HD.out.src hl hb
  rw [← hp8] at C
  have hlt : p8.1 < 18446744073709551616 := by rw [hp8]; exact numP_lt _ _
  have HP8 := Lib.hid hp8
  have HC := Lib.hid C
  clear C hp8
  go_upto_region 14 with (first | (go_at_call 47; (with_reducible refine HC.out.mono ?_); rintro e w1 ⟨rfl, hs1, hk1⟩; have D1 := HD.out.read hs1 hk1; have g1 := blk_frozen D1.sp 7; have g2 : w1.cell? ⟨sb, 7, none⟩ = some (.int .i64 0) := (blk_cell D1.sp 7).trans rfl; have HD1 := Lib.hid D1; clear D1 hs1 hk1) | (go_at_call 46; (with_reducible refine (small_any p8.1 _ hlt).mono ?_); rintro e w1 ⟨rfl, rfl⟩))
  obtain ⟨X8, hX⟩ : ∃ X, X = w1.setCell ⟨sb, 7, none⟩ (.int .i64 (smallN p8.1)) := ⟨_, rfl⟩
  rw [← hX]
  have hD := (show DecAt B q r v L sb w.heap.size w X8 ⟨p1.1, p2.1, p3.1, p4.1, l5.1, strOfNums p6.1, strOfNums p7.1, smallN p8.1, 0, 0, 0, [], []⟩ (lv) (.slice none 0 0) (.slice none 0 0) p8.2 from by rw [hX]; exact HD1.out.put 7 _ _ rfl rfl rfl rfl)
  clear HD HD1 HC hX g1 g2 hlt
  have HD := Lib.hid hD
  clear hD
  obtain ⟨p9, hp9⟩ : ∃ p, p = numP L p8.2 := ⟨_, rfl⟩
  have C := num_any B q r v L p8.2 X8 HD.out.src hl hb
  rw [← hp9] at C
  have hlt : p9.1 < 18446744073709551616 := by rw [hp9]; exact numP_lt _ _
  have HP9 := Lib.hid hp9
  have HC := Lib.hid C
  clear C hp9
  go_upto_region 15 with (first | (go_at_call 47; (with_reducible refine HC.out.mono ?_); rintro e w1 ⟨rfl, hs1, hk1⟩; have D1 := HD.out.read hs1 hk1; have g1 := blk_frozen D1.sp 8; have g2 : w1.cell? ⟨sb, 8, none⟩ = some (.int .i64 0) := (blk_cell D1.sp 8).trans rfl; have HD1 := Lib.hid D1; clear D1 hs1 hk1) | (go_at_call 46; (with_reducible refine (small_any p9.1 _ hlt).mono ?_); rintro e w1 ⟨rfl, rfl⟩))
  obtain ⟨X9, hX⟩ : ∃ X, X = w1.setCell ⟨sb, 8, none⟩ (.int .i64 (smallN p9.1)) := ⟨_, rfl⟩
  rw [← hX]
  have hD := (show DecAt B q r v L sb w.heap.size w X9 ⟨p1.1, p2.1, p3.1, p4.1, l5.1, strOfNums p6.1, strOfNums p7.1, smallN p8.1, smallN p9.1, 0, 0, [], []⟩ (lv) (.slice none 0 0) (.slice none 0 0) p9.2 from by rw [hX]; exact HD1.out.put 8 _ _ rfl rfl rfl rfl)
  clear HD HD1 HC hX g1 g2 hlt
  have HD := Lib.hid hD
  clear hD
  obtain ⟨p10, hp10⟩ : ∃ p, p = numP L p9.2 := ⟨_, rfl⟩
  have C := num_any B q r v L p9.2 X9 HD.out.src hl hb
  rw [← hp10] at C
  have hlt : p10.1 < 18446744073709551616 := by rw [hp10]; exact numP_lt _ _
  have HP10 := Lib.hid hp10
  have HC := Lib.hid C
  clear C hp10
  go_upto_region 16 with (first | (go_at_call 47; (with_reducible refine HC.out.mono ?_); rintro e w1 ⟨rfl, hs1, hk1⟩; have D1 := HD.out.read hs1 hk1; have g1 := blk_frozen D1.sp 9; have g2 : w1.cell? ⟨sb, 9, none⟩ = some (.int .i64 0) := (blk_cell D1.sp 9).trans rfl; have HD1 := Lib.hid D1; clear D1 hs1 hk1) | (go_at_call 48; (with_reducible refine (moment_any p10.1 _ hlt).mono ?_); rintro e w1 ⟨rfl, rfl⟩))
  obtain ⟨X10, hX⟩ : ∃ X, X = w1.setCell ⟨sb, 9, none⟩ (.int .i64 (momentN p10.1)) := ⟨_, rfl⟩
  rw [← hX]
  have hD := (show DecAt B q r v L sb w.heap.size w X10 ⟨p1.1, p2.1, p3.1, p4.1, l5.1, strOfNums p6.1, strOfNums p7.1, smallN p8.1, smallN p9.1, momentN p10.1, 0, [], []⟩ (lv) (.slice none 0 0) (.slice none 0 0) p10.2 from by rw [hX]; exact HD1.out.put 9 _ _ rfl rfl rfl rfl)
  clear HD HD1 HC hX g1 g2 hlt
  have HD := Lib.hid hD
  clear hD
  obtain ⟨p11, hp11⟩ : ∃ p, p = numP L p10.2 := ⟨_, rfl⟩
  have C := num_any B q r v L p10.2 X10 HD.out.src hl hb
  rw [← hp11] at C
  have hlt : p11.1 < 18446744073709551616 := by rw [hp11]; exact numP_lt _ _
  have HP11 := Lib.hid hp11
  have HC := Lib.hid C
  clear C hp11
  go_upto_region 17 with (first | (go_at_call 47; (with_reducible refine HC.out.mono ?_); rintro e w1 ⟨rfl, hs1, hk1⟩; have D1 := HD.out.read hs1 hk1; have g1 := blk_frozen D1.sp 10; have g2 : w1.cell? ⟨sb, 10, none⟩ = some (.int .i64 0) := (blk_cell D1.sp 10).trans rfl; have HD1 := Lib.hid D1; clear D1 hs1 hk1) | (go_at_call 48; (with_reducible refine (moment_any p11.1 _ hlt).mono ?_); rintro e w1 ⟨rfl, rfl⟩))
  obtain ⟨X11, hX⟩ : ∃ X, X = w1.setCell ⟨sb, 10, none⟩ (.int .i64 (momentN p11.1)) := ⟨_, rfl⟩
  rw [← hX]
  have hD := (show DecAt B q r v L sb w.heap.size w X11 ⟨p1.1, p2.1, p3.1, p4.1, l5.1, strOfNums p6.1, strOfNums p7.1, smallN p8.1, smallN p9.1, momentN p10.1, momentN p11.1, [], []⟩ (lv) (.slice none 0 0) (.slice none 0 0) p11.2 from by rw [hX]; exact HD1.out.put 10 _ _ rfl rfl rfl rfl)
  clear HD HD1 HC hX g1 g2 hlt
  have HD := Lib.hid hD
  clear hD
  obtain ⟨p12, hp12⟩ : ∃ p, p = manyP L 32 46 p11.2 := ⟨_, rfl⟩
  have C : Calls Tryd.prog 44 #[.pointer (some ⟨q, 0, none⟩), .int .u64 32, .int .i64 46] X11 _ := many_any B q r v L p11.2 32 46 X11 HD.out.src hl hb (by omega)
  have hle12 : p12.1 ≤ 32 := by rw [hp12]; exact manyP_le _ _ _ _
  rw [← hp12] at C
  have HP12 := Lib.hid hp12
  have HC := Lib.hid C
  clear C hp12
  go_upto_region 18 with (go_at_call 44; (with_reducible refine HC.out.mono ?_); rintro e w1 ⟨rfl, hs1, hk1⟩; have D1 := HD.out.read hs1 hk1; have HD1 := Lib.hid D1; clear D1 hs1 hk1)
  clear HD HC
  have HD := HD1
  clear HD1
  go_loopw [63] (fun i wr => ∃ (k : Nat) (av : Value), i = .int .i64 k ∧ k ≤ p12.1 ∧ DecAt B q r v L sb w.heap.size w wr ⟨p1.1, p2.1, p3.1, p4.1, l5.1, strOfNums p6.1, strOfNums p7.1, smallN p8.1, smallN p9.1, momentN p10.1, momentN p11.1, (iterP (atrP L) k p12.2).1, []⟩ (lv) (av) (.slice none 0 0) (iterP (atrP L) k p12.2).2) (fun i _ => p12.1 - (intOf i).toNat)
  case atStart => exact ⟨0, .slice none 0 0, rfl, Nat.zero_le _, HD.out⟩
  obtain ⟨k, av, rfl, hk, hDr⟩ := hrel
  have k0 : (0 : Int) ≤ k := by omega
  clear HD
  by_cases hkN : k < p12.1
  · obtain ⟨P, hP⟩ : ∃ P, P = iterP (atrP L) k p12.2 := ⟨_, rfl⟩
    have hPl : P.1.length = k := by rw [hP]; exact iterP_len _ _ _
    rw [← hP] at hDr
    have HP := Lib.hid hP
    have k1 : k < p12.1 := hkN
    have k2 : P.1.length ≤ 1000 := by omega
    have HPL := Lib.hid hPl
    clear hP hkN hPl
    obtain ⟨lA, lc, rfl⟩ := own_slice hDr.la
    obtain ⟨x1, hx1⟩ : ∃ x, x = txtP L 40 P.2 := ⟨_, rfl⟩
    have C := txt_any B q r v L P.2 40 wr hDr.src hl hb (by omega) (by omega) (Utf8Tabs.kept HU.out hDr.kept (fun h => h) (fun h => h))
    rw [← hx1] at C
    have HC := Lib.hid C
    have Hx1 := Lib.hid hx1
    clear C hx1
    have HD := Lib.hid hDr
    clear hDr
    go_upto_region 20 with (go_at_call 45; (with_reducible refine HC.out.mono ?_); rintro e w1 ⟨rfl, hs1, hk1⟩; have D1 := HD.out.read hs1 hk1; have HD1 := Lib.hid D1; clear D1 hs1 hk1)
    obtain ⟨Y1, hY⟩ : ∃ Y, Y = w1.alloc (.cells #[.string (strOfNums x1.1), .int .i64 0, .string ⟨#[]⟩, .int .i64 0] 66) := ⟨_, rfl⟩
    rw [← hY]
    have hD := HD1.out.alloc (.cells #[.string (strOfNums x1.1), .int .i64 0, .string ⟨#[]⟩, .int .i64 0] 66)
    rw [← hY] at hD
    have hE : Y1.heap[w1.heap.size]? = some (.cells #[.string (strOfNums x1.1), .int .i64 0, .string ⟨#[]⟩, .int .i64 0] 66 (0, 0)) := by rw [hY]; exact heap_alloc_new w1 _
    have hne : (Value.slice lA P.1.length lc).ownBlock ≠ some w1.heap.size := fun e => Nat.lt_irrefl _ (own_lt HD1.out.la _ e)
    have hge : w.heap.size ≤ w1.heap.size := HD1.out.kept.size
    obtain ⟨xb, hxb⟩ : ∃ x, x = w1.heap.size := ⟨_, rfl⟩
    rw [← hxb] at hE hne hge
    rw [← hxb]
    clear HD HD1 HC hY hxb
    have HD := Lib.hid hD
    have HE := Lib.hid (And.intro hE (And.intro hne hge))
    clear hD hE hne hge
    obtain ⟨x2, hx2⟩ : ∃ x, x = numP L x1.2 := ⟨_, rfl⟩
    have C := num_any B q r v L x1.2 Y1 HD.out.src hl hb
    rw [← hx2] at C
    have hlt : x2.1 < 18446744073709551616 := by rw [hx2]; exact numP_lt _ _
    have HC := Lib.hid C
    have Hx2 := Lib.hid hx2
    clear C hx2
    go_upto_region 21 with (first | (go_at_call 47; (with_reducible refine HC.out.mono ?_); rintro e w1 ⟨rfl, hs1, hk1⟩; have D1 := HD.out.read hs1 hk1; have hE1 := HD.out.src.apart hk1 HE.out.1 (by decide) (by decide); have g1 := blk_frozen hE1 1; have g2 : w1.cell? ⟨xb, 1, none⟩ = some (.int .i64 0) := (blk_cell hE1 1).trans rfl; have HD1 := Lib.hid (And.intro D1 hE1); clear D1 hE1 hs1 hk1) | (go_at_call 46; (with_reducible refine (small_any x2.1 _ hlt).mono ?_); rintro e w1 ⟨rfl, rfl⟩))
    obtain ⟨Y2, hY⟩ : ∃ Y, Y = w1.setCell ⟨xb, 1, none⟩ (.int .i64 (smallN x2.1)) := ⟨_, rfl⟩
    rw [← hY]
    have hE : Y2.heap[xb]? = some (.cells #[.string (strOfNums x1.1), .int .i64 (smallN x2.1), .string ⟨#[]⟩, .int .i64 0] 66 (0, 0)) := by rw [hY]; exact (blk_set HD1.out.2 1 _).trans rfl
    have hD := HD1.out.1.elemA (w1 := Y2) (by rw [hY]; exact Kept.setCell _ _ _ rfl) HD1.out.2 HE.out.2.1 HE.out.2.2
    have HE2 := Lib.hid (And.intro hE HE.out.2)
    clear HD HD1 HC HE hY g1 g2 hE hlt
    have HE := HE2
    have HD := Lib.hid hD
    clear HE2 hD
    obtain ⟨x3, hx3⟩ : ∃ x, x = txtP L 200 x2.2 := ⟨_, rfl⟩
    have C := txt_any B q r v L x2.2 200 Y2 HD.out.src hl hb (by omega) (by omega) (Utf8Tabs.kept HU.out HD.out.kept (fun h => h) (fun h => h))
    rw [← hx3] at C
    have HC := Lib.hid C
    have Hx3 := Lib.hid hx3
    clear C hx3
    go_upto_region 22 with (go_at_call 45; (with_reducible refine HC.out.mono ?_); rintro e w1 ⟨rfl, hs1, hk1⟩; have D1 := HD.out.read hs1 hk1; have hE1 := HD.out.src.apart hk1 HE.out.1 (by decide) (by decide); have g1 := blk_frozen hE1 2; have g2 : w1.cell? ⟨xb, 2, none⟩ = some (.string ⟨#[]⟩) := (blk_cell hE1 2).trans rfl; have HD1 := Lib.hid (And.intro D1 hE1); clear D1 hE1 hs1 hk1)
    obtain ⟨Y3, hY⟩ : ∃ Y, Y = w1.setCell ⟨xb, 2, none⟩ (.string (strOfNums x3.1)) := ⟨_, rfl⟩
    rw [← hY]
    have hE : Y3.heap[xb]? = some (.cells #[.string (strOfNums x1.1), .int .i64 (smallN x2.1), .string (strOfNums x3.1), .int .i64 0] 66 (0, 0)) := by rw [hY]; exact (blk_set HD1.out.2 2 _).trans rfl
    have hD := HD1.out.1.elemA (w1 := Y3) (by rw [hY]; exact Kept.setCell _ _ _ rfl) HD1.out.2 HE.out.2.1 HE.out.2.2
    have HE2 := Lib.hid (And.intro hE HE.out.2)
    clear HD HD1 HC HE hY g1 g2 hE
    have HE := HE2
    have HD := Lib.hid hD
    clear HE2 hD
    obtain ⟨x4, hx4⟩ : ∃ x, x = sigP L x3.2 := ⟨_, rfl⟩
    have C := sig_any B q r v L x3.2 Y3 HD.out.src hl hb
    rw [← hx4] at C
    have HC := Lib.hid C
    have Hx4 := Lib.hid hx4
    clear C hx4
    go_upto_region 23 with (go_at_call 49; (with_reducible refine HC.out.mono ?_); rintro e w1 ⟨rfl, hs1, hk1⟩; have D1 := HD.out.read hs1 hk1; have hE1 := HD.out.src.apart hk1 HE.out.1 (by decide) (by decide); have g1 := blk_frozen hE1 3; have g2 : w1.cell? ⟨xb, 3, none⟩ = some (.int .i64 0) := (blk_cell hE1 3).trans rfl; have HD1 := Lib.hid (And.intro D1 hE1); clear D1 hE1 hs1 hk1)
    obtain ⟨Y4, hY⟩ : ∃ Y, Y = w1.setCell ⟨xb, 3, none⟩ (.int .i64 x4.1) := ⟨_, rfl⟩
    rw [← hY]
    have hE : Y4.heap[xb]? = some (.cells #[.string (strOfNums x1.1), .int .i64 (smallN x2.1), .string (strOfNums x3.1), .int .i64 x4.1] 66 (0, 0)) := by rw [hY]; exact (blk_set HD1.out.2 3 _).trans rfl
    have hD := HD1.out.1.elemA (w1 := Y4) (by rw [hY]; exact Kept.setCell _ _ _ rfl) HD1.out.2 HE.out.2.1 HE.out.2.2
    have HE2 := Lib.hid (And.intro hE HE.out.2)
    clear HD HD1 HC HE hY g1 g2 hE
    have HE := HE2
    have HD := Lib.hid hD
    clear HE2 hD
    have f1 : Y4.cell? ⟨sb, 11, none⟩ = some (.slice lA P.1.length lc) := (blk_cell HD.out.sp 11).trans rfl
    have e0 : Y4.cell? ⟨xb, 0, none⟩ = some (.string (strOfNums x1.1)) := (blk_cell HE.out.1 0).trans rfl
    have e1 : Y4.cell? ⟨xb, 1, none⟩ = some (.int .i64 (smallN x2.1)) := (blk_cell HE.out.1 1).trans rfl
    have e2 : Y4.cell? ⟨xb, 2, none⟩ = some (.string (strOfNums x3.1)) := (blk_cell HE.out.1 2).trans rfl
    have e3 : Y4.cell? ⟨xb, 3, none⟩ = some (.int .i64 x4.1) := (blk_cell HE.out.1 3).trans rfl
    have hone : ∀ u ∈ (#[.string (strOfNums x1.1), .int .i64 (smallN x2.1), .string (strOfNums x3.1), .int .i64 x4.1] : Array Value).toList, u.oneCell' = true := by intro u hu; simp at hu; rcases hu with rfl | rfl | rfl | rfl <;> rfl
    have h8 : 48 ≤ 1000 := by omega
    have oL := HD.out.la
    have hBw : w.heap.size ≤ Y4.heap.size := HD.out.kept.size
    go_upto_region 24 with (at_builtin; refine wpList_append_one rfl _ _ 30 rfl w.heap.size 66 ia0 (.agg #[.string ⟨#[]⟩, .int .i64 0, .string ⟨#[]⟩, .int .i64 0]) 4 48 Tryd.underlying30 ia iaz0 iaz1 iaz2 rfl (by decide) (.slice lA P.1.length lc) P.1.length (P.1.flatMap Atr.cells) #[.string (strOfNums x1.1), .int .i64 (smallN x2.1), .string (strOfNums x3.1), .int .i64 x4.1] 1 rfl rfl rfl hone oL k2 h8 hBw ?_; intro A' c' w2 hown2 hg2; have hsp := (HD.out.alloc (.cells #[.string (strOfNums x1.1), .int .i64 (smallN x2.1), .string (strOfNums x3.1), .int .i64 x4.1] 66)).spA hg2; have za := blk_frozen hsp 11; have zb : w2.cell? ⟨sb, 11, none⟩ = some (.slice lA P.1.length lc) := (blk_cell hsp 11).trans rfl; have HG := Lib.hid (And.intro hown2 hg2); clear hown2 hg2 hsp)
    have hfin := (HD.out.alloc (.cells #[.string (strOfNums x1.1), .int .i64 (smallN x2.1), .string (strOfNums x3.1), .int .i64 x4.1] 66)).pushA (x := ⟨strOfNums x1.1, smallN x2.1, strOfNums x3.1, x4.1⟩) HG.out.1 HG.out.2
    have HF := Lib.hid hfin
    clear hfin
    go_wp2_with fail
    refine ⟨⟨k + 1, .slice A' (P.1.length + 1) c', by congr 1, by omega, ?_⟩, by simp [intOf]; omega⟩
    have e1 : iterP (atrP L) (k + 1) p12.2 = (P.1 ++ [⟨strOfNums x1.1, smallN x2.1, strOfNums x3.1, x4.1⟩], x4.2) := by simp only [iterP, atrP, ← HP.out, ← Hx1.out, ← Hx2.out, ← Hx3.out, ← Hx4.out]
    rw [e1]
    exact HF.out
  have k1 : ¬ k < p12.1 := hkN
  have hkE : k = p12.1 := by omega
  rw [hkE] at hDr
  obtain ⟨l12, hl12⟩ : ∃ P, P = iterP (atrP L) p12.1 p12.2 := ⟨_, rfl⟩
  rw [← hl12] at hDr
  have HL12 := Lib.hid hl12
  have HD := Lib.hid hDr
  clear hDr hl12 hkE hk hkN
  obtain ⟨V12, rfl⟩ : ∃ W : World, W = wr := ⟨_, rfl⟩
  obtain ⟨p13, hp13⟩ : ∃ p, p = manyP L 32 47 l12.2 := ⟨_, rfl⟩
  have C : Calls Tryd.prog 44 #[.pointer (some ⟨q, 0, none⟩), .int .u64 32, .int .i64 47] V12 _ := many_any B q r v L l12.2 32 47 V12 HD.out.src hl hb (by omega)
  have hle13 : p13.1 ≤ 32 := by rw [hp13]; exact manyP_le _ _ _ _
  rw [← hp13] at C
  have HP13 := Lib.hid hp13
  have HC := Lib.hid C
  clear C hp13
  go_upto_region 26 with (go_at_call 44; (with_reducible refine HC.out.mono ?_); rintro e w1 ⟨rfl, hs1, hk1⟩; have D1 := HD.out.read hs1 hk1; have HD1 := Lib.hid D1; clear D1 hs1 hk1)
  clear HD HC
  have HD := HD1
  clear HD1
  go_loopw [90] (fun i wr => ∃ (k : Nat) (ev : Value), i = .int .i64 k ∧ k ≤ p13.1 ∧ DecAt B q r v L sb w.heap.size w wr ⟨p1.1, p2.1, p3.1, p4.1, l5.1, strOfNums p6.1, strOfNums p7.1, smallN p8.1, smallN p9.1, momentN p10.1, momentN p11.1, l12.1, (iterP (evtP L) k p13.2).1⟩ (lv) (av) (ev) (iterP (evtP L) k p13.2).2) (fun i _ => p13.1 - (intOf i).toNat)
  case atStart => exact ⟨0, .slice none 0 0, rfl, Nat.zero_le _, HD.out⟩
  obtain ⟨k, ev, rfl, hk, hDr⟩ := hrel
  have k0 : (0 : Int) ≤ k := by omega
  clear HD
  by_cases hkN : k < p13.1
  · obtain ⟨P, hP⟩ : ∃ P, P = iterP (evtP L) k p13.2 := ⟨_, rfl⟩
    have hPl : P.1.length = k := by rw [hP]; exact iterP_len _ _ _
    rw [← hP] at hDr
    have HP := Lib.hid hP
    have k1 : k < p13.1 := hkN
    have k2 : P.1.length ≤ 1000 := by omega
    have HPL := Lib.hid hPl
    clear hP hkN hPl
    obtain ⟨lA, lc, rfl⟩ := own_slice hDr.le
    obtain ⟨x1, hx1⟩ : ∃ x, x = numP L P.2 := ⟨_, rfl⟩
    have C := num_any B q r v L P.2 wr hDr.src hl hb
    rw [← hx1] at C
    have hlt : x1.1 < 18446744073709551616 := by rw [hx1]; exact numP_lt _ _
    have HC := Lib.hid C
    have Hx1 := Lib.hid hx1
    clear C hx1
    have HD := Lib.hid hDr
    clear hDr
    go_upto_region 28 with (first | (go_at_call 47; (with_reducible refine HC.out.mono ?_); rintro e w1 ⟨rfl, hs1, hk1⟩; have D1 := HD.out.read hs1 hk1; have HD1 := Lib.hid D1; clear D1 hs1 hk1) | (go_at_call 48; (with_reducible refine (moment_any x1.1 _ hlt).mono ?_); rintro e w1 ⟨rfl, rfl⟩))
    obtain ⟨Y1, hY⟩ : ∃ Y, Y = w1.alloc (.cells #[.int .i64 (momentN x1.1), .string ⟨#[]⟩] 68) := ⟨_, rfl⟩
    rw [← hY]
    have hD := HD1.out.alloc (.cells #[.int .i64 (momentN x1.1), .string ⟨#[]⟩] 68)
    rw [← hY] at hD
    have hE : Y1.heap[w1.heap.size]? = some (.cells #[.int .i64 (momentN x1.1), .string ⟨#[]⟩] 68 (0, 0)) := by rw [hY]; exact heap_alloc_new w1 _
    have hne : (Value.slice lA P.1.length lc).ownBlock ≠ some w1.heap.size := fun e => Nat.lt_irrefl _ (own_lt HD1.out.le _ e)
    have hge : w.heap.size ≤ w1.heap.size := HD1.out.kept.size
    obtain ⟨xb, hxb⟩ : ∃ x, x = w1.heap.size := ⟨_, rfl⟩
    rw [← hxb] at hE hne hge
    rw [← hxb]
    clear HD HD1 HC hY hxb hlt
    have HD := Lib.hid hD
    have HE := Lib.hid (And.intro hE (And.intro hne hge))
    clear hD hE hne hge
    obtain ⟨x2, hx2⟩ : ∃ x, x = txtP L 100 x1.2 := ⟨_, rfl⟩
    have C := txt_any B q r v L x1.2 100 Y1 HD.out.src hl hb (by omega) (by omega) (Utf8Tabs.kept HU.out HD.out.kept (fun h => h) (fun h => h))
    rw [← hx2] at C
    have HC := Lib.hid C
    have Hx2 := Lib.hid hx2
    clear C hx2
    go_upto_region 29 with (go_at_call 45; (with_reducible refine HC.out.mono ?_); rintro e w1 ⟨rfl, hs1, hk1⟩; have D1 := HD.out.read hs1 hk1; have hE1 := HD.out.src.apart hk1 HE.out.1 (by decide) (by decide); have g1 := blk_frozen hE1 1; have g2 : w1.cell? ⟨xb, 1, none⟩ = some (.string ⟨#[]⟩) := (blk_cell hE1 1).trans rfl; have HD1 := Lib.hid (And.intro D1 hE1); clear D1 hE1 hs1 hk1)
    obtain ⟨Y2, hY⟩ : ∃ Y, Y = w1.setCell ⟨xb, 1, none⟩ (.string (strOfNums x2.1)) := ⟨_, rfl⟩
    rw [← hY]
    have hE : Y2.heap[xb]? = some (.cells #[.int .i64 (momentN x1.1), .string (strOfNums x2.1)] 68 (0, 0)) := by rw [hY]; exact (blk_set HD1.out.2 1 _).trans rfl
    have hD := HD1.out.1.elemE (w1 := Y2) (by rw [hY]; exact Kept.setCell _ _ _ rfl) HD1.out.2 HE.out.2.1 HE.out.2.2
    have HE2 := Lib.hid (And.intro hE HE.out.2)
    clear HD HD1 HC HE hY g1 g2 hE
    have HE := HE2
    have HD := Lib.hid hD
    clear HE2 hD
    have f1 : Y2.cell? ⟨sb, 12, none⟩ = some (.slice lA P.1.length lc) := (blk_cell HD.out.sp 12).trans rfl
    have e0 : Y2.cell? ⟨xb, 0, none⟩ = some (.int .i64 (momentN x1.1)) := (blk_cell HE.out.1 0).trans rfl
    have e1 : Y2.cell? ⟨xb, 1, none⟩ = some (.string (strOfNums x2.1)) := (blk_cell HE.out.1 1).trans rfl
    have hone : ∀ u ∈ (#[.int .i64 (momentN x1.1), .string (strOfNums x2.1)] : Array Value).toList, u.oneCell' = true := by intro u hu; simp at hu; rcases hu with rfl | rfl <;> rfl
    have h8 : 24 ≤ 1000 := by omega
    have oL := HD.out.le
    have hBw : w.heap.size ≤ Y2.heap.size := HD.out.kept.size
    go_upto_region 30 with (at_builtin; refine wpList_append_one rfl _ _ 31 rfl w.heap.size 68 ie0 (.agg #[.int .i64 0, .string ⟨#[]⟩]) 2 24 Tryd.underlying31 ie iez0 iez1 iez2 rfl (by decide) (.slice lA P.1.length lc) P.1.length (P.1.flatMap Evt.cells) #[.int .i64 (momentN x1.1), .string (strOfNums x2.1)] 1 rfl rfl rfl hone oL k2 h8 hBw ?_; intro A' c' w2 hown2 hg2; have hsp := (HD.out.alloc (.cells #[.int .i64 (momentN x1.1), .string (strOfNums x2.1)] 68)).spE hg2; have za := blk_frozen hsp 12; have zb : w2.cell? ⟨sb, 12, none⟩ = some (.slice lA P.1.length lc) := (blk_cell hsp 12).trans rfl; have HG := Lib.hid (And.intro hown2 hg2); clear hown2 hg2 hsp)
    have hfin := (HD.out.alloc (.cells #[.int .i64 (momentN x1.1), .string (strOfNums x2.1)] 68)).pushE (x := ⟨momentN x1.1, strOfNums x2.1⟩) HG.out.1 HG.out.2
    have HF := Lib.hid hfin
    clear hfin
    go_wp2_with fail
    refine ⟨⟨k + 1, .slice A' (P.1.length + 1) c', by congr 1, by omega, ?_⟩, by simp [intOf]; omega⟩
    have e1 : iterP (evtP L) (k + 1) p13.2 = (P.1 ++ [⟨momentN x1.1, strOfNums x2.1⟩], x2.2) := by simp only [iterP, evtP, ← HP.out, ← Hx1.out, ← Hx2.out]
    rw [e1]
    exact HF.out
  have k1 : ¬ k < p13.1 := hkN
  have hkE : k = p13.1 := by omega
  rw [hkE] at hDr
  obtain ⟨l13, hl13⟩ : ∃ P, P = iterP (evtP L) p13.1 p13.2 := ⟨_, rfl⟩
  rw [← hl13] at hDr
  have HL13 := Lib.hid hl13
  have HD := Lib.hid hDr
  clear hDr hl13 hkE hk hkN
  obtain ⟨V13, rfl⟩ : ∃ W : World, W = wr := ⟨_, rfl⟩
  obtain ⟨S, hS⟩ : ∃ S : Spn, S = ⟨p1.1, p2.1, p3.1, p4.1, l5.1, strOfNums p6.1, strOfNums p7.1, smallN p8.1, smallN p9.1, momentN p10.1, momentN p11.1, l12.1, l13.1⟩ := ⟨_, rfl⟩
  have hspn : spnP L = (S, l13.2) := by rw [hS]; exact spnP_of L p1 p2 p3 p4 p5 l5 p6 p7 p8 p9 p10 p11 p12 l12 p13 l13 HP1.out HP2.out HP3.out HP4.out HP5.out HL5.out HP6.out HP7.out HP8.out HP9.out HP10.out HP11.out HP12.out HL12.out HP13.out HL13.out
  have hD := HD.out
  rw [← hS] at hD
  have hl1 : S.links.length ≤ 16 := by rw [hS]; show l5.1.length ≤ 16; rw [HL5.out, iterP_len]; exact hle5
  have hl2 : S.ats.length ≤ 32 := by rw [hS]; show l12.1.length ≤ 32; rw [HL12.out, iterP_len]; exact hle12
  have hl3 : S.evs.length ≤ 32 := by rw [hS]; show l13.1.length ≤ 32; rw [HL13.out, iterP_len]; exact hle13
  have hsz : Sized S := by
    have ht : ∀ (most : Int) (st : DSt), (strOfNums (txtP L most st).1).size ≤ 9223372036854775807 := fun most st => by
      rw [strOfNums_size]; have := txtP_len L hb most st; omega
    rw [hS]
    refine ⟨by show (strOfNums p6.1).size ≤ _; rw [HP6.out]; exact ht _ _, by show (strOfNums p7.1).size ≤ _; rw [HP7.out]; exact ht _ _, fun x hx => ?_, fun x hx => ?_⟩
    · have hx' : x ∈ l12.1 := hx
      rw [HL12.out] at hx'
      obtain ⟨s', rfl⟩ := iterP_mem _ _ _ _ hx'
      exact ⟨ht _ _, ht _ _⟩
    · have hx' : x ∈ l13.1 := hx
      rw [HL13.out] at hx'
      obtain ⟨s', rfl⟩ := iterP_mem _ _ _ _ hx'
      exact ht _ _
  obtain ⟨fs, hfs⟩ : ∃ s, s = l13.2 := ⟨_, rfl⟩
  rw [← hfs] at hD hspn
  have HA := Lib.hid (And.intro hspn (And.intro hsz (And.intro hl1 (And.intro hl2 hl3))))
  have hne : q ≠ w.heap.size := fun e => by
    obtain ⟨e', n', hq, _⟩ := hD.src
    exact blk_ne hq hD.res (by decide) e
  have HD := Lib.hid hD
  clear hD hspn hsz hS hl1 hl2 hl3 hfs
  obtain ⟨V, rfl⟩ : ∃ V : World, V = V13 := ⟨_, rfl⟩
  cases fs with
  | bad a no =>
    have HDEC := Lib.hid (decS_bad HA.out.1)
    obtain ⟨e, n, hq, hr, hn, g, rfl, hg⟩ := HD.out.src
    have d1 : V.cell? ⟨q, 1, none⟩ = some (.iface 102 (.pointer (some ⟨g, 0, none⟩))) := (blk_cell hq 1).trans rfl
    have z0 : V.frozen? ⟨w.heap.size, 0, none⟩ = false := blk_frozen HD.out.res 0
    have y0 : V.cell? ⟨w.heap.size, 0, none⟩ = some (.int .u64 0) := (blk_cell HD.out.res 0).trans rfl
    have z1 : V.frozen? ⟨w.heap.size, 1, none⟩ = false := blk_frozen HD.out.res 1
    have y1 : V.cell? ⟨w.heap.size, 1, none⟩ = some (.int .u64 0) := (blk_cell HD.out.res 1).trans rfl
    have z2 : V.frozen? ⟨w.heap.size, 2, none⟩ = false := blk_frozen HD.out.res 2
    have y2 : V.cell? ⟨w.heap.size, 2, none⟩ = some (.int .u64 0) := (blk_cell HD.out.res 2).trans rfl
    have z3 : V.frozen? ⟨w.heap.size, 3, none⟩ = false := blk_frozen HD.out.res 3
    have y3 : V.cell? ⟨w.heap.size, 3, none⟩ = some (.int .u64 0) := (blk_cell HD.out.res 3).trans rfl
    have z4 : V.frozen? ⟨w.heap.size, 4, none⟩ = false := blk_frozen HD.out.res 4
    have y4 : V.cell? ⟨w.heap.size, 4, none⟩ = some (.slice none 0 0) := (blk_cell HD.out.res 4).trans rfl
    have z5 : V.frozen? ⟨w.heap.size, 5, none⟩ = false := blk_frozen HD.out.res 5
    have y5 : V.cell? ⟨w.heap.size, 5, none⟩ = some (.string ⟨#[]⟩) := (blk_cell HD.out.res 5).trans rfl
    have z6 : V.frozen? ⟨w.heap.size, 6, none⟩ = false := blk_frozen HD.out.res 6
    have y6 : V.cell? ⟨w.heap.size, 6, none⟩ = some (.string ⟨#[]⟩) := (blk_cell HD.out.res 6).trans rfl
    have z7 : V.frozen? ⟨w.heap.size, 7, none⟩ = false := blk_frozen HD.out.res 7
    have y7 : V.cell? ⟨w.heap.size, 7, none⟩ = some (.int .i64 0) := (blk_cell HD.out.res 7).trans rfl
    have z8 : V.frozen? ⟨w.heap.size, 8, none⟩ = false := blk_frozen HD.out.res 8
    have y8 : V.cell? ⟨w.heap.size, 8, none⟩ = some (.int .i64 0) := (blk_cell HD.out.res 8).trans rfl
    have z9 : V.frozen? ⟨w.heap.size, 9, none⟩ = false := blk_frozen HD.out.res 9
    have y9 : V.cell? ⟨w.heap.size, 9, none⟩ = some (.int .i64 0) := (blk_cell HD.out.res 9).trans rfl
    have z10 : V.frozen? ⟨w.heap.size, 10, none⟩ = false := blk_frozen HD.out.res 10
    have y10 : V.cell? ⟨w.heap.size, 10, none⟩ = some (.int .i64 0) := (blk_cell HD.out.res 10).trans rfl
    have z11 : V.frozen? ⟨w.heap.size, 11, none⟩ = false := blk_frozen HD.out.res 11
    have y11 : V.cell? ⟨w.heap.size, 11, none⟩ = some (.slice none 0 0) := (blk_cell HD.out.res 11).trans rfl
    have z12 : V.frozen? ⟨w.heap.size, 12, none⟩ = false := blk_frozen HD.out.res 12
    have y12 : V.cell? ⟨w.heap.size, 12, none⟩ = some (.slice none 0 0) := (blk_cell HD.out.res 12).trans rfl
    have hne2 : w.heap.size ≠ q := fun e => hne e.symm
    have HG := Lib.hid (And.intro hg (fun e : g = w.heap.size => blk_ne hg HD.out.res (by decide) e))
    clear hq hr hg hn
    go_upto_region 34 with fail
    go_region
    all_goals
      obtain ⟨VV, hVV, hb, hk⟩ := stored13 (w := V) (g := w.heap.size) HD.out.res rfl (.int .u64 0) (.int .u64 0) (.int .u64 0) (.int .u64 0) (.slice none 0 0) (.string ⟨#[]⟩) (.string ⟨#[]⟩) (.int .i64 0) (.int .i64 0) (.int .i64 0) (.int .i64 0) (.slice none 0 0) (.slice none 0 0)
      have HV := Lib.hid (And.intro hVV (And.intro hb hk))
      clear hVV hb hk
      go_wp2_with fail
      refine ret33e rfl w.heap.size zcells _ rfl rfl rfl (by rw [← HV.out.1]; exact HV.out.2.1) rfl ?_
      rw [← HV.out.1]
      unfold DecPost
      rw [HDEC.out]
      exact ⟨g, rfl, blk_kept HV.out.2.2 HG.out.1 HG.out.2, (HD.out.kept.trans HV.out.2.2 (fun _ _ e => e) (fun i hi e => by omega)).trans (Kept.drew (fun _ => False) _) (fun _ _ e => e) (fun _ _ e => e)⟩
  | ok n =>
    obtain ⟨e, n', hq, hr, hn, rfl, rfl⟩ := HD.out.src
    have c0 : V.cell? ⟨q, 0, none⟩ = some (.pointer (some ⟨r, 0, none⟩)) := (blk_cell hq 0).trans rfl
    have c1 : V.cell? ⟨q, 1, none⟩ = some .nilIface := (blk_cell hq 1).trans rfl
    have HQ := Lib.hid (And.intro hq (And.intro hr hn))
    clear hq hr hn
    by_cases hlt : n < L.length
    case pos =>
      have HDEC := Lib.hid (decS_rest HA.out.1 hlt)
      have HC := Lib.hid (end_left B r n v L V HQ.out.2.1 hlt hl)
      clear hlt
      go_upto_region 33 with (go_at_call 50; (with_reducible refine HC.out.mono ?_); rintro e w1 ⟨err, rfl, g, rfl, hg0, hg, hk1⟩; have g1 := blk_frozen (blk_kept hk1 HQ.out.1 (fun h => h)) 1; have g2 := (blk_cell (blk_kept hk1 HQ.out.1 (fun h => h)) 1).trans rfl; have HG := Lib.hid (And.intro hg hk1); clear hg0 hg hk1)
      obtain ⟨Z, hZ⟩ : ∃ Z, Z = w1.setCell ⟨q, 1, none⟩ (.iface 102 (.pointer (some ⟨g, 0, none⟩))) := ⟨_, rfl⟩
      rw [← hZ]
      have hD := HD.out.read (w1 := Z) (st' := .bad n 15) (by rw [hZ]; exact SrcAt.stored (blk_kept HG.out.2 HQ.out.1 (fun h => h)) (HQ.out.2.1.kept HG.out.2 (fun h => h) (fun _ _ h => h)) HQ.out.2.2 ⟨g, rfl, HG.out.1⟩) (by rw [hZ]; exact stored_kept (HG.out.2.mono (fun _ _ h => h.elim)))
      clear HD HC HG hZ g1 g2 c0 c1 HQ
      have HD := Lib.hid hD
      clear hD
      obtain ⟨e, n, hq, hr, hn, g, rfl, hg⟩ := HD.out.src
      have d1 : Z.cell? ⟨q, 1, none⟩ = some (.iface 102 (.pointer (some ⟨g, 0, none⟩))) := (blk_cell hq 1).trans rfl
      have z0 : Z.frozen? ⟨w.heap.size, 0, none⟩ = false := blk_frozen HD.out.res 0
      have y0 : Z.cell? ⟨w.heap.size, 0, none⟩ = some (.int .u64 0) := (blk_cell HD.out.res 0).trans rfl
      have z1 : Z.frozen? ⟨w.heap.size, 1, none⟩ = false := blk_frozen HD.out.res 1
      have y1 : Z.cell? ⟨w.heap.size, 1, none⟩ = some (.int .u64 0) := (blk_cell HD.out.res 1).trans rfl
      have z2 : Z.frozen? ⟨w.heap.size, 2, none⟩ = false := blk_frozen HD.out.res 2
      have y2 : Z.cell? ⟨w.heap.size, 2, none⟩ = some (.int .u64 0) := (blk_cell HD.out.res 2).trans rfl
      have z3 : Z.frozen? ⟨w.heap.size, 3, none⟩ = false := blk_frozen HD.out.res 3
      have y3 : Z.cell? ⟨w.heap.size, 3, none⟩ = some (.int .u64 0) := (blk_cell HD.out.res 3).trans rfl
      have z4 : Z.frozen? ⟨w.heap.size, 4, none⟩ = false := blk_frozen HD.out.res 4
      have y4 : Z.cell? ⟨w.heap.size, 4, none⟩ = some (.slice none 0 0) := (blk_cell HD.out.res 4).trans rfl
      have z5 : Z.frozen? ⟨w.heap.size, 5, none⟩ = false := blk_frozen HD.out.res 5
      have y5 : Z.cell? ⟨w.heap.size, 5, none⟩ = some (.string ⟨#[]⟩) := (blk_cell HD.out.res 5).trans rfl
      have z6 : Z.frozen? ⟨w.heap.size, 6, none⟩ = false := blk_frozen HD.out.res 6
      have y6 : Z.cell? ⟨w.heap.size, 6, none⟩ = some (.string ⟨#[]⟩) := (blk_cell HD.out.res 6).trans rfl
      have z7 : Z.frozen? ⟨w.heap.size, 7, none⟩ = false := blk_frozen HD.out.res 7
      have y7 : Z.cell? ⟨w.heap.size, 7, none⟩ = some (.int .i64 0) := (blk_cell HD.out.res 7).trans rfl
      have z8 : Z.frozen? ⟨w.heap.size, 8, none⟩ = false := blk_frozen HD.out.res 8
      have y8 : Z.cell? ⟨w.heap.size, 8, none⟩ = some (.int .i64 0) := (blk_cell HD.out.res 8).trans rfl
      have z9 : Z.frozen? ⟨w.heap.size, 9, none⟩ = false := blk_frozen HD.out.res 9
      have y9 : Z.cell? ⟨w.heap.size, 9, none⟩ = some (.int .i64 0) := (blk_cell HD.out.res 9).trans rfl
      have z10 : Z.frozen? ⟨w.heap.size, 10, none⟩ = false := blk_frozen HD.out.res 10
      have y10 : Z.cell? ⟨w.heap.size, 10, none⟩ = some (.int .i64 0) := (blk_cell HD.out.res 10).trans rfl
      have z11 : Z.frozen? ⟨w.heap.size, 11, none⟩ = false := blk_frozen HD.out.res 11
      have y11 : Z.cell? ⟨w.heap.size, 11, none⟩ = some (.slice none 0 0) := (blk_cell HD.out.res 11).trans rfl
      have z12 : Z.frozen? ⟨w.heap.size, 12, none⟩ = false := blk_frozen HD.out.res 12
      have y12 : Z.cell? ⟨w.heap.size, 12, none⟩ = some (.slice none 0 0) := (blk_cell HD.out.res 12).trans rfl
      have hne2 : w.heap.size ≠ q := fun e => hne e.symm
      have HG := Lib.hid (And.intro hg (fun e : g = w.heap.size => blk_ne hg HD.out.res (by decide) e))
      clear hq hr hg hn
      go_upto_region 34 with fail
      go_region
      all_goals
        obtain ⟨VV, hVV, hb, hk⟩ := stored13 (w := Z) (g := w.heap.size) HD.out.res rfl (.int .u64 0) (.int .u64 0) (.int .u64 0) (.int .u64 0) (.slice none 0 0) (.string ⟨#[]⟩) (.string ⟨#[]⟩) (.int .i64 0) (.int .i64 0) (.int .i64 0) (.int .i64 0) (.slice none 0 0) (.slice none 0 0)
        have HV := Lib.hid (And.intro hVV (And.intro hb hk))
        clear hVV hb hk
        go_wp2_with fail
        refine ret33e rfl w.heap.size zcells _ rfl rfl rfl (by rw [← HV.out.1]; exact HV.out.2.1) rfl ?_
        rw [← HV.out.1]
        unfold DecPost
        rw [HDEC.out]
        exact ⟨g, rfl, blk_kept HV.out.2.2 HG.out.1 HG.out.2, (HD.out.kept.trans HV.out.2.2 (fun _ _ e => e) (fun i hi e => by omega)).trans (Kept.drew (fun _ => False) _) (fun _ _ e => e) (fun _ _ e => e)⟩

    case neg =>
      have hnl : n = L.length := by have := HQ.out.2.2; omega
      have HLT := Lib.hid hlt
      subst hnl
      have HC := Lib.hid (end_none B r v L V HQ.out.2.1 hl)
      clear hlt
      go_upto_region 33 with (go_at_call 50; (with_reducible refine HC.out.mono ?_); rintro e w1 ⟨rfl, hk1⟩; have g1 := blk_frozen (blk_kept hk1 HQ.out.1 (fun h => h)) 1; have g2 := (blk_cell (blk_kept hk1 HQ.out.1 (fun h => h)) 1).trans rfl; have HG := Lib.hid hk1; clear hk1)
      obtain ⟨Z, hZ⟩ : ∃ Z, Z = w1.setCell ⟨q, 1, none⟩ .nilIface := ⟨_, rfl⟩
      rw [← hZ]
      have hD := HD.out.read (w1 := Z) (st' := .ok L.length) (by rw [hZ]; exact SrcAt.stored (blk_kept HG.out HQ.out.1 (fun h => h)) (HQ.out.2.1.kept HG.out (fun h => h) (fun _ _ h => h)) HQ.out.2.2 ⟨rfl, rfl⟩) (by rw [hZ]; exact stored_kept (HG.out.mono (fun _ _ h => h.elim)))
      have hkV : Kept (fun i => i = q ∨ i = r) V Z := by rw [hZ]; exact stored_kept (HG.out.mono (fun _ _ h => h.elim))
      obtain ⟨e, n', hq, _⟩ := hD.src
      have d1 : Z.cell? ⟨q, 1, none⟩ = some .nilIface := by rw [hZ]; exact (blk_cell (blk_set (blk_kept HG.out HQ.out.1 (fun h => h)) 1 _) 1).trans rfl
      clear HD HC HG hZ g1 g2 c0 c1 HQ hq hkV
      have HD := Lib.hid hD
      clear hD
      have HSP := Lib.hid HD.out.sp
      obtain ⟨lA, lc, rfl⟩ := own_slice HD.out.ll
      obtain ⟨aA, ac, rfl⟩ := own_slice HD.out.la
      obtain ⟨eA, ec, rfl⟩ := own_slice HD.out.le
      obtain ⟨lv, hlv⟩ : ∃ v, v = Value.slice lA S.links.length lc := ⟨_, rfl⟩
      obtain ⟨av, hav⟩ : ∃ v, v = Value.slice aA S.ats.length ac := ⟨_, rfl⟩
      obtain ⟨ev, hev⟩ : ∃ v, v = Value.slice eA S.evs.length ec := ⟨_, rfl⟩
      have hone : (S.cells lv av ev).all (·.oneCell') = true := by rw [hlv, hav, hev]; simp [Spn.cells, Value.oneCell']
      rw [← hlv, ← hav, ← hev] at HD HSP
      clear hlv hav hev
      obtain ⟨cz, hcz⟩ : ∃ c, c = checkS S := ⟨_, rfl⟩
      have hl1 := HA.out.2.2.1
      have hl2 := HA.out.2.2.2.1
      have hl3 := HA.out.2.2.2.2
      have hchk := check_any S lv av ev Z (HD.out.reads (by omega) (by omega) (by omega)) HA.out.2.1 (Utf8Tabs.kept HU.out HD.out.kept (fun h => h) (fun h => h))
      rw [← hcz] at hchk
      have HC := Lib.hid hchk
      have HCZ := Lib.hid hcz
      clear hchk hcz hl1 hl2 hl3
      go_upto_region 36 with (first | (refine wpList_load33 rfl _ rfl sb (S.cells lv av ev) rfl HSP.out rfl ?_) | (go_at_call 10; (with_reducible refine HC.out.mono ?_); rintro e w1 ⟨rfl, hk1⟩; have HK := Lib.hid hk1; clear hk1))
      have HS1 := Lib.hid (blk_kept HK.out HD.out.sp (fun h => h))
      have HR1 := Lib.hid (blk_kept HK.out HD.out.res (fun h => h))
      by_cases hc : cz = 0
      · have HDEC := Lib.hid (decS_ok HA.out.1 HLT.out (by rw [← HCZ.out]; exact hc))
        subst hc
        go_wp2_with (first | (refine wpList_load33 rfl _ rfl sb (S.cells lv av ev) rfl HS1.out rfl ?_) | (refine wpList_store33 rfl _ _ rfl w.heap.size zcells (S.cells lv av ev) rfl rfl HR1.out rfl rfl hone ?_; intro w2 hb2 hk2; have HV := Lib.hid (And.intro hb2 hk2); clear hb2 hk2))
        refine ret33e rfl w.heap.size (S.cells lv av ev) .nilIface rfl rfl rfl HV.out.1 rfl ?_
        unfold DecPost
        rw [HDEC.out]
        have hl1 := HA.out.2.2.1
        have hl2 := HA.out.2.2.2.1
        have hl3 := HA.out.2.2.2.2
        have hfin := HD.out.final HK.out HV.out.2 (by omega) (by omega) (by omega)
        exact ⟨lv, av, ev, rfl, hfin.1, hfin.2⟩
      · have HDEC := Lib.hid (decS_chk HA.out.1 HLT.out (by rw [← HCZ.out]; exact hc))
        rw [← HCZ.out] at HDEC
        have e1 : (cz == 0) = false := by simpa using hc
        have HRA := Lib.hid (blk_kept (Kept.alloc (fun _ => False) w1 (.cells #[.int .i64 0, .int .i64 cz] 104)) HR1.out (fun h => h))
        have HKA := Lib.hid (HK.out.trans (Kept.alloc (fun _ => False) w1 (.cells #[.int .i64 0, .int .i64 cz] 104)) (U := fun _ => False) (fun _ _ e => e) (fun _ _ e => e))
        have HC2 := Lib.hid hc
        have hz1 : zcells.all (·.oneCell') = true := by simp [zcells, Value.oneCell']
        clear hc
        go_wp2_with (refine wpList_store33 rfl _ _ rfl w.heap.size zcells zcells rfl rfl HRA.out rfl rfl hz1 ?_; intro w2 hb2 hk2; have HV := Lib.hid (And.intro hb2 hk2); clear hb2 hk2)
        refine ret33e rfl w.heap.size zcells _ rfl rfl rfl HV.out.1 rfl ?_
        unfold DecPost
        rw [HDEC.out]
        have hl1 := HA.out.2.2.1
        have hl2 := HA.out.2.2.2.1
        have hl3 := HA.out.2.2.2.2
        have hfin := HD.out.final HKA.out HV.out.2 (by omega) (by omega) (by omega)
        exact ⟨_, rfl, blk_kept HV.out.2 (heap_alloc_new w1 _) (fun e => by have := blk_lt HR1.out; omega), hfin.2⟩

end Go.Proofs.YtniigjfimggobaaDoor
