/- The document's Head, of 24 bytes and more. -/
import Derived.Test.YtoolimfdncfgnaaC8b
import Derived.Deep.RegionHeld3
import Derived.Deep.DeepCutAuto
import Derived.StillTailTactics
import Derived.Deep.DrawnRows
namespace Go.Proofs.Ytoolimfdncfgnaa
open Go.RowKit
set_option linter.unusedVariables false
set_option linter.unusedSimpArgs false

attribute [local go_sem ↓] Go.wp_at_zero Go.wp_at_succ

set_option maxHeartbeats 4000000 in
set_option maxRecDepth 100000 in
theorem refHeadL_any (bb off c : Nat) (l : List Int) (w : World) (hl : 24 ≤ l.length) (hc : l.length ≤ c) (hcm : c ≤ 9223372036854775807) (hb : Bytes l) (hh : Here bb off l w) :
    Calls Try.prog 23 #[.slice (some ⟨bb, off, none⟩) l.length c] w (HeadPost l w) := by
  have hcell : ∀ W, Kept (fun _ => False) w W → ∀ j, j < 24 → ∃ m : Nat, l.getD j 0 = (m : Int) ∧ m < 256 ∧ W.cell? ⟨bb, off + j, none⟩ = some (.int .u8 m) := fun W hW j hj => by
    have hbj := hb.getD j (by omega)
    have := (hh.kept hW) j (by omega)
    exact ⟨(l.getD j 0).toNat, by omega, by omega, by rw [this]; congr 2; omega⟩
  have ht8 : ∀ W, Kept (fun _ => False) w W → Calls Try.prog 41 #[.slice (some ⟨bb, off + 4, none⟩) 8 (c - 4)] W (fun e w' => e = .returned (.int .u64 (hSeq l)) ∧ w' = W) := fun W hk' =>
    refTold_at ⟨bb, off + 4, none⟩ 8 (c - 4) ((l.drop 4).take 8) W (by simp; omega) (by decide) ((hb.drop 4).take 8) (by have := (hh.kept hk').sub 4 8 (by omega); intro j hj; rw [add_lit']; exact this j (by simp; omega))
  have ht4 : ∀ W, Kept (fun _ => False) w W → Calls Try.prog 41 #[.slice (some ⟨bb, off + 12, none⟩) 4 (c - 12)] W (fun e w' => e = .returned (.int .u64 (hLen l)) ∧ w' = W) := fun W hk' =>
    refTold_at ⟨bb, off + 12, none⟩ 4 (c - 12) ((l.drop 12).take 4) W (by simp; omega) (by decide) ((hb.drop 12).take 4) (by have := (hh.kept hk').sub 12 4 (by omega); intro j hj; rw [add_lit']; exact this j (by simp; omega))
  have HT := Lib.hid (And.intro ht8 ht4)
  have HH := Lib.hid hh
  have HL := Lib.hid hl
  have KS := Lib.hid (show hSeq l < 18446744073709551616 by
    have h := told_lt' ((hb.drop 4).take 8)
    have e : ((l.drop 4).take 8).length = 8 := by simp; omega
    rw [e] at h
    exact h)
  obtain ⟨k3, e3, l3, g3⟩ := hcell w (.refl _ _) 3 (by decide)
  have HC := Lib.hid hcell
  have E3 := Lib.hid e3
  have i1 : (24 : Int) ≤ l.length := by omega
  have i2 : ¬ (l.length : Int) < 24 := by omega
  have j1 : (12 : Int) ≤ c := by omega
  have j2 : (16 : Int) ≤ c := by omega
  have j3 : (24 : Int) ≤ c := by omega
  have j4 : ¬ c = 4 := by omega
  have j5 : ¬ c = 12 := by omega
  have x3 : (3 : Int) < l.length := by omega
  have y3 : 3 < l.length := by omega
  have x16 : (19 : Int) < l.length := by omega
  have x17 : (18 : Int) < l.length := by omega
  have x18 : (17 : Int) < l.length := by omega
  have x19 : (16 : Int) < l.length := by omega
  have hL : hLen l < 4294967296 := told_lt' ((hb.drop 12).take 4) |> fun h => by
    have e : ((l.drop 12).take 4).length = 4 := by simp; omega
    rw [e] at h
    exact h
  have zL : IntKind.i64.wrap ((hLen l : Nat) : Int) = (hLen l : Nat) := IntWalk.i64_in _ (by omega)
  clear hh hcell ht8 ht4 e3 hl
  go_enter Try.func23, Try.ntmps23
  go_upto_region 3 with fail
  have hbk : (w.alloc (.cells #[.int .i64 0, .int .u64 0, .int .i64 0, .int .u32 0] 43)).heap[w.heap.size]? = some (.cells #[.int .i64 0, .int .u64 0, .int .i64 0, .int .u32 0] 43 (0, 0)) := heap_alloc_new _ _
  have hkW : Kept (fun _ => False) w (w.alloc (.cells #[.int .i64 0, .int .u64 0, .int .i64 0, .int .u32 0] 43)) := .alloc _ _ _
  generalize w.alloc (.cells #[.int .i64 0, .int .u64 0, .int .i64 0, .int .u32 0] 43) = W at *
  have hq3 : W.cell? ⟨bb, off + 3, none⟩ = some (.int .u8 k3) := (World.cell?_of_block (hkW.block _ (World.block_lt_of_cell? w _ g3) id)).trans g3
  have HW := Lib.hid (And.intro hbk hkW)
  clear hbk hkW
  have hkW := HW.out.2
  have KEEP := Lib.hid (And.intro hL (And.intro hb (And.intro hc hcm)))
  have k3w : IntKind.i64.wrap (k3 : Int) = k3 := IntWalk.i64_in _ (by omega)
  clear hL hb hcm i1 i2 g3 l3 j3 hkW
  go_cut [4] (fun s4 wx => s4 = .pointer (some ⟨W.heap.size, 0, none⟩) ∧ wx = (W.alloc (.cells #[.int .i64 k3, .int .u64 (hSeq l), .int .i64 (hLen l), .int .u32 0] 43)).drew)
  case first =>
    go_region_held3 (fun w' => w'.cell? ⟨bb, off + 3, none⟩ = some (.int .u8 k3) ∧ Kept (fun _ => False) w w')
      (first | exact ⟨hq3, HW.out.2⟩ | exact ⟨hq3, kd HW.out.2⟩ | exact ⟨cell_alloc hq3 _, kt HW.out.2 (Kept.alloc _ _ _)⟩ | exact ⟨cell_alloc hq3 _, kd (kt HW.out.2 (Kept.alloc _ _ _))⟩)
      (first
        | (go_at_call 41; with_reducible refine (HT.out.1 _ (by first | exact HW.out.2 | exact kd HW.out.2 | exact kt HW.out.2 (Kept.alloc _ _ _) | exact kd (kt HW.out.2 (Kept.alloc _ _ _)))).mono ?_; rintro e w' ⟨rfl, rfl⟩)
        | (go_at_call 41; with_reducible refine (HT.out.2 _ (by first | exact HW.out.2 | exact kd HW.out.2 | exact kt HW.out.2 (Kept.alloc _ _ _) | exact kd (kt HW.out.2 (Kept.alloc _ _ _)))).mono ?_; rintro e w' ⟨rfl, rfl⟩))
    all_goals (go_wp2_with fail; go_meet; exact ⟨rfl, rfl⟩)
  case rest =>
    obtain ⟨rfl, rfl⟩ := hcut
    have hKW2 := kd (Kept.alloc (fun _ => False) W (.cells #[.int .i64 k3, .int .u64 (hSeq l), .int .i64 (hLen l), .int .u32 0] 43))
    have hK2 := kt HW.out.2 hKW2
    have hb2 : (W.alloc (.cells #[.int .i64 k3, .int .u64 (hSeq l), .int .i64 (hLen l), .int .u32 0] 43)).drew.heap[W.heap.size]? = some (.cells #[.int .i64 k3, .int .u64 (hSeq l), .int .i64 (hLen l), .int .u32 0] 43 (0, 0)) := heap_alloc_new _ _
    generalize hW2 : (W.alloc (.cells #[.int .i64 k3, .int .u64 (hSeq l), .int .i64 (hLen l), .int .u32 0] 43)).drew = W2 at *
    obtain ⟨g, hg⟩ : ∃ g, g = W.heap.size := ⟨_, rfl⟩
    rw [← hg] at hb2 ⊢
    have HG := Lib.hid hg
    clear hW2 hg hq3
    obtain ⟨k16, e16, l16, g16⟩ := HC.out _ hK2 16 (by decide)
    obtain ⟨k17, e17, l17, g17⟩ := HC.out _ hK2 17 (by decide)
    obtain ⟨k18, e18, l18, g18⟩ := HC.out _ hK2 18 (by decide)
    obtain ⟨k19, e19, l19, g19⟩ := HC.out _ hK2 19 (by decide)
    obtain ⟨u, hu⟩ : ∃ u : Nat, u = k16 + 256 * k17 + 65536 * k18 + 16777216 * k19 := ⟨_, rfl⟩
    have hsum : hSum l = u := by unfold hSum leS; rw [e16, e17, e18, e19]; simp only [Int.toNat_natCast]; omega
    have hu32 : u < 4294967296 := by omega
    have w16 : IntKind.u32.wrap (k16 : Int) = k16 := IntWalk.u32_in _ (by omega)
    have w17 : IntKind.u32.wrap (k17 : Int) = k17 := IntWalk.u32_in _ (by omega)
    have w18 : IntKind.u32.wrap (k18 : Int) = k18 := IntWalk.u32_in _ (by omega)
    have w19 : IntKind.u32.wrap (k19 : Int) = k19 := IntWalk.u32_in _ (by omega)
    have v17 : IntKind.u32.wrap ((k17 : Int) * 256) = k17 * 256 := IntWalk.u32_in _ (by omega)
    have v18 : IntKind.u32.wrap ((k18 : Int) * 65536) = k18 * 65536 := IntWalk.u32_in _ (by omega)
    have v19 : IntKind.u32.wrap ((k19 : Int) * 16777216) = k19 * 16777216 := IntWalk.u32_in _ (by omega)
    have s17 : IntKind.u32.wrap ((k16 : Int) + k17 * 256) = k16 + k17 * 256 := IntWalk.u32_in _ (by omega)
    have s18 : IntKind.u32.wrap ((k16 : Int) + k17 * 256 + k18 * 65536) = k16 + k17 * 256 + k18 * 65536 := IntWalk.u32_in _ (by omega)
    have s19 : IntKind.u32.wrap ((k16 : Int) + k17 * 256 + k18 * 65536 + k19 * 16777216) = k16 + k17 * 256 + k18 * 65536 + k19 * 16777216 := IntWalk.u32_in _ (by omega)
    have hue : (k16 : Int) + k17 * 256 + k18 * 65536 + k19 * 16777216 = u := by omega
    have q3 : W2.cell? ⟨g, 3, none⟩ = some (.int .u32 0) := blk_cell hb2 3
    have f3 := blk_frozen hb2 3
    have HE := Lib.hid (And.intro hsum (And.intro hb2 (And.intro hK2 (And.intro hu32 (And.intro hue hKW2)))))
    clear e16 e17 e18 e19 hb2 hK2 hu hsum hu32 hue hKW2
    go_wp2_with fail
    go_still_tail 23, (by kernel_rfl)
    change wpList _ _ _ _ _ W2.drew
    have z3 : W2.drew.cell? ⟨g, 3, none⟩ = some (.int .u32 0) := q3
    have fz3 : W2.drew.frozen? ⟨g, 3, none⟩ = false := f3
    have H3 : Hid (W2.drew.heap[g]? = some (.cells #[.int .i64 k3, .int .u64 (hSeq l), .int .i64 (hLen l), .int .u32 0] 43 (0, 0)) ∧ Kept (fun _ => False) W W2.drew) := Lib.hid ⟨HE.out.2.1, kd HE.out.2.2.2.2.2⟩
    clear q3 f3
    generalize W2.drew = W3 at *
    rw [HE.out.2.2.2.2.1]
    clear w16 w17 w18 w19 v17 v18 v19 s17 s18 s19 g16 g17 g18 g19 x16 x17 x18 x19 x3 y3
    go_upto_region 5 with fail
    have hb4 : (W3.setCell ⟨g, 3, none⟩ (.int .u32 u)).heap[g]? = some (.cells #[.int .i64 k3, .int .u64 (hSeq l), .int .i64 (hLen l), .int .u32 u] 43 (0, 0)) := (blk_set H3.out.1 3 (.int .u32 u)).trans rfl
    have hKW4 : Kept (fun _ => False) W (W3.setCell ⟨g, 3, none⟩ (.int .u32 u)) := H3.out.2.trans (Kept.setCell (S := fun k => k = g) _ _ _ rfl) (fun _ _ e => e) (fun i hi e => by have := HG.out; omega)
    have hK4 := kt HW.out.2 hKW4
    clear z3 fz3
    generalize W3.setCell ⟨g, 3, none⟩ (.int .u32 u) = W4 at *
    have r0 : W4.cell? ⟨g, 0, none⟩ = some (.int .i64 k3) := blk_cell hb4 0
    have r1 : W4.cell? ⟨g, 1, none⟩ = some (.int .u64 (hSeq l)) := blk_cell hb4 1
    have r2 : W4.cell? ⟨g, 2, none⟩ = some (.int .i64 (hLen l)) := blk_cell hb4 2
    have r3 : W4.cell? ⟨g, 3, none⟩ = some (.int .u32 u) := blk_cell hb4 3
    obtain ⟨T, hT⟩ : ∃ T, T = l.take 24 := ⟨_, rfl⟩
    obtain ⟨H, hH⟩ : ∃ H, H = head24 k3 (hSeq l) (hLen l) u := ⟨_, rfl⟩
    have hcv : ∀ W, Kept (fun _ => False) w W → (convert 25 9 (.slice (some ⟨bb, off, none⟩) 24 c)).run Try.prog W = .ok (.string (strOfNums T)) W := fun W hW => by
      rw [hT]
      exact (show Here bb off (l.take 24) W from (HH.out.kept hW).sub 0 24 (by have := HL.out; omega)).string (P := Try.prog) (c := c) Try.underlying25 Try.underlying5 Try.underlying9 (by have := HL.out; simp; omega)
    have H4 := Lib.hid (And.intro hb4 (And.intro hKW4 (And.intro hcv (And.intro hT (And.intro hH hK4)))))
    clear hb4 hKW4 hcv hT hH hK4
    go_cut [65] (fun s65 wx => s65 = .bool (decide (k3 < 1 ∨ 9 < k3 ∨ 1048576 < hLen l ∨ H ≠ T)) ∧ Kept (fun _ => False) W wx ∧ wx.heap[g]? = some (.cells #[.int .i64 k3, .int .u64 (hSeq l), .int .i64 (hLen l), .int .u32 u] 43 (0, 0)))
    case first =>
      by_cases hk1 : k3 < 1
      · have k1 : (k3 : Int) < 1 := by omega
        go_quiet (fail)
        go_wp2_with fail
        go_meet
        exact ⟨congrArg Value.bool (decide_eq_true (by omega)).symm, kdn H4.out.2.1 _, H4.out.1⟩
      · have k1 : ¬ (k3 : Int) < 1 := by omega
        by_cases hk9 : 9 < k3
        · have k9 : (9 : Int) < k3 := by omega
          go_quiet (fail)
          go_wp2_with fail
          go_meet
          exact ⟨congrArg Value.bool (decide_eq_true (by omega)).symm, kdn H4.out.2.1 _, H4.out.1⟩
        · have k9 : ¬ (9 : Int) < k3 := by omega
          by_cases hn9 : 1048576 < hLen l
          · have n9 : (1048576 : Int) < hLen l := by omega
            go_quiet (fail)
            go_wp2_with fail
            go_meet
            exact ⟨congrArg Value.bool (decide_eq_true (by omega)).symm, kdn H4.out.2.1 _, H4.out.1⟩
          · have n9 : ¬ (1048576 : Int) < hLen l := by omega
            have hc24 : (24 : Int) ≤ c := by have := HL.out; omega
            have hk256 : k3 < 256 := by omega
            have hHb : Bytes H := by rw [H4.out.2.2.2.2.1]; exact head24_bytes _ _ _ hk256
            have hTb : Bytes T := by rw [H4.out.2.2.2.1]; exact KEEP.out.2.1.take 24
            have hcall : ∀ W', Kept (fun _ => False) W W' → Calls Try.prog 36 #[.agg #[.int .i64 k3, .int .u64 (hSeq l), .int .i64 (hLen l), .int .u32 u]] W' (OwnPost H W') := fun W' _ => by
              rw [H4.out.2.2.2.2.1]
              exact refHead_any k3 (hSeq l) (hLen l) u W' hk256 KS.out KEEP.out.1 HE.out.2.2.2.1
            have HCALL := Lib.hid hcall
            have hcv4 : (convert 25 9 (.slice (some ⟨bb, off, none⟩) 24 c)).run Try.prog W4 = .ok (.string (strOfNums T)) W4 := H4.out.2.2.1 _ H4.out.2.2.2.2.2
            clear hcall
            by_cases hq : H = T
            · have hs : ((strOfNums H).toList == (strOfNums T).toList) = true := by rw [hq]; simp
              have hsn : ((strOfNums H).toList != (strOfNums T).toList) = false := by rw [hq]; simp
              have HQ := Lib.hid (And.intro hq (And.intro hHb hTb))
              clear hq hHb hTb
              have hcv5 : (convert 25 9 (.slice (some ⟨bb, off, none⟩) 24 c)).run Try.prog W4.drew = .ok (.string (strOfNums T)) W4.drew := H4.out.2.2.1 _ (kd H4.out.2.2.2.2.2)
              go_region_with ((go_at_call 36; (with_reducible refine (HCALL.out _ (kt H4.out.2.1 (kd (.refl _ _)))).mono ?_); rintro e w1 ⟨v1, rfl, hown1, hk1⟩; have hc1 := (Lies.of_own hown1).string (P := Try.prog) Try.underlying25 Try.underlying5 Try.underlying9; have hcv6 := H4.out.2.2.1 _ (kt H4.out.2.2.2.2.2 (kt (kd (.refl _ _)) hk1))))
              all_goals
                go_wp2_with fail
                go_meet
                exact ⟨congrArg Value.bool (decide_eq_false (by have := HQ.out.1; rintro (h | h | h | h); omega; omega; omega; exact h this)).symm, kt H4.out.2.1 (kt (kd (.refl _ _)) hk1), blk_kept (kt (kd (.refl _ _)) hk1) H4.out.1 id⟩
            · have hne : (strOfNums H).toList ≠ (strOfNums T).toList := fun e => hq (str_inj hHb hTb e)
              have hs : ((strOfNums H).toList == (strOfNums T).toList) = false := beq_eq_false_iff_ne.2 hne
              have hsn : ((strOfNums H).toList != (strOfNums T).toList) = true := by rw [bne_iff_ne]; exact hne
              have HQ := Lib.hid (And.intro hq (And.intro hHb hTb))
              clear hq hHb hTb hne
              have hcv5 : (convert 25 9 (.slice (some ⟨bb, off, none⟩) 24 c)).run Try.prog W4.drew = .ok (.string (strOfNums T)) W4.drew := H4.out.2.2.1 _ (kd H4.out.2.2.2.2.2)
              go_region_with ((go_at_call 36; (with_reducible refine (HCALL.out _ (kt H4.out.2.1 (kd (.refl _ _)))).mono ?_); rintro e w1 ⟨v1, rfl, hown1, hk1⟩; have hc1 := (Lies.of_own hown1).string (P := Try.prog) Try.underlying25 Try.underlying5 Try.underlying9; have hcv6 := H4.out.2.2.1 _ (kt H4.out.2.2.2.2.2 (kt (kd (.refl _ _)) hk1))))
              all_goals
                go_wp2_with fail
                go_meet
                exact ⟨congrArg Value.bool (decide_eq_true (.inr (.inr (.inr HQ.out.1)))).symm, kt H4.out.2.1 (kt (kd (.refl _ _)) hk1), blk_kept (kt (kd (.refl _ _)) hk1) H4.out.1 id⟩
    case rest =>
      obtain ⟨rfl, hKc, hbc⟩ := hcut
      have hkk : hKind l = k3 := by unfold hKind; rw [E3.out]; rfl
      have hbz : wc.heap[w.heap.size]? = some (.cells #[.int .i64 0, .int .u64 0, .int .i64 0, .int .u32 0] 43 (0, 0)) := blk_kept hKc HW.out.1 id
      have y0 : wc.cell? ⟨w.heap.size, 0, none⟩ = some (.int .i64 0) := blk_cell hbz 0
      have y1 : wc.cell? ⟨w.heap.size, 1, none⟩ = some (.int .u64 0) := blk_cell hbz 1
      have y2 : wc.cell? ⟨w.heap.size, 2, none⟩ = some (.int .i64 0) := blk_cell hbz 2
      have y3 : wc.cell? ⟨w.heap.size, 3, none⟩ = some (.int .u32 0) := blk_cell hbz 3
      have yf := fun i => blk_frozen hbz i
      have HZ := Lib.hid hbz
      have HKC := Lib.hid (kt HW.out.2 hKc)
      by_cases hbad : k3 < 1 ∨ 9 < k3 ∨ 1048576 < hLen l ∨ H ≠ T
      · have hS : headS l = .bad := headS_bad KEEP.out.2.1 HL.out (by
          rw [hkk, HE.out.1, ← H4.out.2.2.2.1, ← H4.out.2.2.2.2.1]
          rcases hbad with h | h | h | h
          · exact .inl h
          · exact .inr (.inl h)
          · exact .inr (.inr (.inl h))
          · exact .inr (.inr (.inr (Ne.symm h))))
        have hP : ∀ w', Kept (fun _ => False) w w' → HeadPost l w (.returned (.tuple #[.agg #[.int .i64 0, .int .u64 0, .int .i64 0, .int .u32 0], .int .i64 24])) w' := fun w' h => by
          unfold HeadPost; rw [hS]; exact ⟨h, rfl⟩
        rw [decide_eq_true hbad]
        have HP := Lib.hid hP
        clear hP hS hbad hkk hbz hKc hbc
        go_wp2_with fail
        obtain ⟨⟨r0, r1, r2, r3⟩, -, hK4⟩ := four (W := wc) (g := w.heap.size) HZ.out (.int .i64 0) (.int .u64 0) (.int .i64 0) (.int .u32 0)
        exact bodyPost_ret (v := .tuple #[.agg #[.int .i64 0, .int .u64 0, .int .i64 0, .int .u32 0], .int .i64 24]) (by simp [results, Try.results23, go_sem, r0, r1, r2, r3]) rfl (HP.out _ (HKC.out.trans hK4 (fun _ _ e => e) (fun k hk e => by omega)))
      · have hq : T = H := by
          rcases Decidable.em (H = T) with e | e
          · exact e.symm
          · exact absurd (.inr (.inr (.inr e))) hbad
        have hS : headS l = .ok k3 (hSeq l) (hLen l) u := by
          have := headS_ok KEEP.out.2.1 HL.out (by rw [hkk]; omega) (by rw [hkk]; omega) (by omega) (by rw [hkk, HE.out.1, ← H4.out.2.2.2.1, ← H4.out.2.2.2.2.1]; exact hq)
          rw [hkk, HE.out.1] at this
          exact this
        have hP : ∀ w', Kept (fun _ => False) w w' → HeadPost l w (.returned (.tuple #[.agg #[.int .i64 k3, .int .u64 (hSeq l), .int .i64 (hLen l), .int .u32 u], .int .i64 0])) w' := fun w' h => by
          unfold HeadPost; rw [hS]; exact ⟨h, rfl⟩
        rw [decide_eq_false hbad]
        have t0 : wc.cell? ⟨g, 0, none⟩ = some (.int .i64 k3) := blk_cell hbc 0
        have t1 : wc.cell? ⟨g, 1, none⟩ = some (.int .u64 (hSeq l)) := blk_cell hbc 1
        have t2 : wc.cell? ⟨g, 2, none⟩ = some (.int .i64 (hLen l)) := blk_cell hbc 2
        have t3 : wc.cell? ⟨g, 3, none⟩ = some (.int .u32 u) := blk_cell hbc 3
        have HP := Lib.hid hP
        clear hP hS hbad hkk hbz hKc hbc hq
        go_wp2_with fail
        obtain ⟨⟨r0, r1, r2, r3⟩, -, hK4⟩ := four (W := wc) (g := w.heap.size) HZ.out (.int .i64 k3) (.int .u64 (hSeq l)) (.int .i64 (hLen l)) (.int .u32 u)
        exact bodyPost_ret (v := .tuple #[.agg #[.int .i64 k3, .int .u64 (hSeq l), .int .i64 (hLen l), .int .u32 u], .int .i64 0]) (by simp [results, Try.results23, go_sem, r0, r1, r2, r3]) rfl (HP.out _ (HKC.out.trans hK4 (fun _ _ e => e) (fun k hk e => by omega)))
theorem refHead_any2 (v : Value) (l : List Int) (w : World) (hb : Bytes l) (hr : Reads w v l) (hcap : ∀ A n c, v = .slice A n c → c ≤ 9223372036854775807) :
    Calls Try.prog 23 #[v] w (HeadPost l w) := by
  by_cases hl : l.length < 24
  · obtain ⟨A, c, rfl, _⟩ := hr
    exact refHead_torn A c l w hl
  · obtain ⟨b, off, c, rfl, hc, hh⟩ := reads_here hr (by omega)
    exact refHeadL_any b off c l w (by omega) hc (hcap _ _ _ rfl) hb hh
end Go.Proofs.Ytoolimfdncfgnaa
