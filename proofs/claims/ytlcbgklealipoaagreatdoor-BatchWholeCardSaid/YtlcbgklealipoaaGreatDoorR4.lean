/- writer.attr: a thing that is known of a span, laid down (the walk; printed by gen_r4.py). -/
import Derived.Test.YtlcbgklealipoaaGreatDoorZR
import Derived.Deep.DeepCutAuto
namespace Go.Proofs.YtlcbgklealipoaaGreatDoor
open Go Go.RowKit
set_option linter.unusedVariables false
set_option linter.unusedSimpArgs false

/-- What of an attribute fits. -/
structure AtrOk (a : Atr) : Prop where
  k : 0 ≤ a.k ∧ a.k ≤ 2
  key : a.key.size ≤ 9223372036854775807
  t : a.t.size ≤ 9223372036854775807
  i : -9223372036854775808 ≤ a.i ∧ a.i < 9223372036854775808
  b : a.k = 2 → 0 ≤ a.i ∧ a.i ≤ 1
set_option maxHeartbeats 8000000 in
set_option maxRecDepth 100000 in
theorem attr_any {wb g mt mr N : Nat} {w0 w : World} {b : BW} (h : WAt wb g mt mr w0 b N w) (a : Atr) (ha : AtrOk a) (hN : N ≤ 880000) :
    Calls Tryz.prog 81 #[.pointer (some ⟨wb, 0, none⟩), .agg (atrA a)] w (WPost wb g mt mr w0 (b.attr a) (N + 23) w (.tuple #[])) := by
  obtain ⟨q, hq⟩ : ∃ q, q = w.heap.size := ⟨_, rfl⟩
  obtain ⟨W, hW⟩ : ∃ W, W = w.alloc (.cells (atrA a) 132) := ⟨_, rfl⟩
  have hm : WMid wb g mt mr w0 (b) (N + 0) w q (atrA a) 132 W := by
    rw [hW]
    exact ⟨h.alloc _, .of_kept (.alloc _ _ _), by rw [hq]; exact heap_alloc_new w _, by decide, by decide, by decide, by decide, by decide⟩
  have HM := Lib.hid hm
  have HA := Lib.hid ha
  have e0 := ha.k
  have hW' : w.alloc (.cells #[.string a.key, .int .i64 a.k, .string a.t, .int .i64 a.i] 132) = W := hW.symm
  clear hm ha h hW
  simp only [atrA]
  go_enter Tryz.func81, Tryz.ntmps81
  go_upto_region 1 with fail
  rw [← hq]
  have HQ := Lib.hid hq
  clear hq hW'
  go_cut [] (fun wx => WMid wb g mt mr w0 (b.text a.key) (N + 11) w q (atrA a) 132 wx)
  case first =>
    refine wp_region_held_drew (S := WS wb g (b).st q (atrA a)) (by kernel_rfl) HM.out.drew.ws (fun hH => ?_)
    refine takeH 0 4 rfl (by kernel_rfl) (by kernel_rfl) (by kernel_rfl) (v := ?_) (fun _ _ _ h => h) rfl (by rfl) ?_ hH ?_
    case refine_2 => intro w hSw; clear hSw; go_simp; try with_reducible rfl
    simp only [List.setIfInBounds_toArray, List.set_cons_zero, List.set_cons_succ]
    refine takeH 1 5 rfl (by kernel_rfl) (by kernel_rfl) (by kernel_rfl) (v := ?_) (fun _ _ _ h => h) rfl (by rfl) ?_ hH ?_
    case refine_2 => intro w hSw; clear hSw; go_simp; try with_reducible rfl
    simp only [List.setIfInBounds_toArray, List.set_cons_zero, List.set_cons_succ]
    refine takeH 2 6 rfl (by kernel_rfl) (by kernel_rfl) (by kernel_rfl) (v := ?_) (fun _ _ _ h => h) rfl (by rfl) ?_ hH ?_
    case refine_2 => intro w hSw; clear hSw; go_simp; try with_reducible rfl
    simp only [List.setIfInBounds_toArray, List.set_cons_zero, List.set_cons_succ]
    refine takeH 3 7 rfl (by kernel_rfl) (by kernel_rfl) (by kernel_rfl) (v := ?_) (fun _ _ _ h => h) rfl (by rfl) ?_ hH ?_
    case refine_2 => intro w hSw; have x0 := hSw.1; clear hSw; go_simp; try with_reducible rfl
    simp only [List.setIfInBounds_toArray, List.set_cons_zero, List.set_cons_succ]
    refine takeH 4 8 rfl (by kernel_rfl) (by kernel_rfl) (by kernel_rfl) (v := ?_) (fun _ _ _ h => h) rfl (by rfl) ?_ hH ?_
    case refine_2 => intro w hSw; clear hSw; go_simp; try with_reducible rfl
    simp only [List.setIfInBounds_toArray, List.set_cons_zero, List.set_cons_succ]
    refine takeH 5 9 rfl (by kernel_rfl) (by kernel_rfl) (by kernel_rfl) (v := ?_) (fun _ _ _ h => h) rfl (by rfl) ?_ hH ?_
    case refine_2 => intro w hSw; clear hSw; go_simp; try with_reducible rfl
    simp only [List.setIfInBounds_toArray, List.set_cons_zero, List.set_cons_succ]
    refine takeH 6 10 rfl (by kernel_rfl) (by kernel_rfl) (by kernel_rfl) (v := ?_) (fun _ _ _ h => h) rfl (by rfl) ?_ hH ?_
    case refine_2 => intro w hSw; clear hSw; go_simp; try with_reducible rfl
    simp only [List.setIfInBounds_toArray, List.set_cons_zero, List.set_cons_succ]
    refine takeH 7 11 rfl (by kernel_rfl) (by kernel_rfl) (by kernel_rfl) (v := ?_) (fun _ _ _ h => h) rfl (by rfl) ?_ hH ?_
    case refine_2 => intro w hSw; clear hSw; go_simp; try with_reducible rfl
    simp only [List.setIfInBounds_toArray, List.set_cons_zero, List.set_cons_succ]
    refine takeH 8 12 rfl (by kernel_rfl) (by kernel_rfl) (by kernel_rfl) (v := ?_) (fun _ _ _ h => h) rfl (by rfl) ?_ hH ?_
    case refine_2 => intro w hSw; have x1 : w.cell? ⟨q, 0, none⟩ = some (.string a.key) := (hSw.2.2 0).trans rfl; clear hSw; go_simp; try with_reducible rfl
    simp only [List.setIfInBounds_toArray, List.set_cons_zero, List.set_cons_succ]
    clear hH
    refine stepH2 9 13 (by kernel_rfl) rfl rfl rfl _ _ _ rfl Tryz.func79 rfl rfl _ _ rfl rfl (mText HM.out.drew a.key HA.out.key (by omega)) ?_
    rintro e w3 ⟨rfl, h3⟩
    have H3 := Lib.hid h3
    clear h3
    refine ⟨H3.out.ws, fun hH => ?_⟩
    simp only [List.setIfInBounds_toArray, List.set_cons_zero, List.set_cons_succ]
    clear hH
    refine stepH2 10 14 (by kernel_rfl) rfl rfl rfl _ _ _ rfl Tryz.func35 rfl rfl _ _ rfl rfl (mTextN H3.out (by omega) (HM.out.idxT a.key (by omega))) ?_
    rintro e w4 ⟨rfl, h4⟩
    have H4 := Lib.hid h4
    clear h4
    refine ⟨H4.out.ws, fun hH => ?_⟩
    simp only [List.setIfInBounds_toArray, List.set_cons_zero, List.set_cons_succ]
    refine wpAnyH_done (by kernel_rfl) ?_ _
    go_wp2_with fail
    go_meet
    exact H4.out
  case rest =>
  obtain ⟨W1, rfl⟩ : ∃ V : World, V = wc := ⟨_, rfl⟩
  have HM1 := Lib.hid hcut
  clear hcut HM
  obtain ⟨b1, hb1⟩ : ∃ x, x = b.text a.key := ⟨_, rfl⟩
  rw [← hb1] at HM1
  have HB1 := Lib.hid hb1
  clear hb1
  go_upto_region 2 with fail
  go_cut [] (fun wx => WMid wb g mt mr w0 (b1.put [a.k]) (N + 12) w q (atrA a) 132 wx)
  case first =>
    refine wp_region_held_drew (S := WS wb g (b1).st q (atrA a)) (by kernel_rfl) HM1.out.drew.ws (fun hH => ?_)
    refine takeH 0 15 rfl (by kernel_rfl) (by kernel_rfl) (by kernel_rfl) (v := ?_) (fun _ _ _ h => h) rfl (by rfl) ?_ hH ?_
    case refine_2 => intro w hSw; clear hSw; go_simp; try with_reducible rfl
    simp only [List.setIfInBounds_toArray, List.set_cons_zero, List.set_cons_succ]
    refine takeH 1 16 rfl (by kernel_rfl) (by kernel_rfl) (by kernel_rfl) (v := ?_) (fun _ _ _ h => h) rfl (by rfl) ?_ hH ?_
    case refine_2 => intro w hSw; clear hSw; go_simp; try with_reducible rfl
    simp only [List.setIfInBounds_toArray, List.set_cons_zero, List.set_cons_succ]
    refine takeH 2 17 rfl (by kernel_rfl) (by kernel_rfl) (by kernel_rfl) (v := ?_) (fun _ _ _ h => h) rfl (by rfl) ?_ hH ?_
    case refine_2 => intro w hSw; clear hSw; go_simp; try with_reducible rfl
    simp only [List.setIfInBounds_toArray, List.set_cons_zero, List.set_cons_succ]
    refine takeH 3 18 rfl (by kernel_rfl) (by kernel_rfl) (by kernel_rfl) (v := ?_) (fun _ _ _ h => h) rfl (by rfl) ?_ hH ?_
    case refine_2 => intro w hSw; have x0 := hSw.1; clear hSw; go_simp; try with_reducible rfl
    simp only [List.setIfInBounds_toArray, List.set_cons_zero, List.set_cons_succ]
    refine takeH 4 19 rfl (by kernel_rfl) (by kernel_rfl) (by kernel_rfl) (v := ?_) (fun _ _ _ h => h) rfl (by rfl) ?_ hH ?_
    case refine_2 => intro w hSw; clear hSw; go_simp; try with_reducible rfl
    simp only [List.setIfInBounds_toArray, List.set_cons_zero, List.set_cons_succ]
    refine takeH 5 20 rfl (by kernel_rfl) (by kernel_rfl) (by kernel_rfl) (v := ?_) (fun _ _ _ h => h) rfl (by rfl) ?_ hH ?_
    case refine_2 => intro w hSw; clear hSw; go_simp; try with_reducible rfl
    simp only [List.setIfInBounds_toArray, List.set_cons_zero, List.set_cons_succ]
    refine takeH 6 21 rfl (by kernel_rfl) (by kernel_rfl) (by kernel_rfl) (v := ?_) (fun _ _ _ h => h) rfl (by rfl) ?_ hH ?_
    case refine_2 => intro w hSw; have x1 : w.cell? ⟨q, 1, none⟩ = some (.int .i64 a.k) := (hSw.2.2 1).trans rfl; clear hSw; go_simp; try with_reducible rfl
    simp only [List.setIfInBounds_toArray, List.set_cons_zero, List.set_cons_succ]
    refine takeH 7 22 rfl (by kernel_rfl) (by kernel_rfl) (by kernel_rfl) (v := ?_) (fun _ _ _ h => h) rfl (by rfl) ?_ hH ?_
    case refine_2 => intro w hSw; clear hSw; go_simp; try with_reducible rfl
    simp only [List.setIfInBounds_toArray, List.set_cons_zero, List.set_cons_succ]
    clear hH
    refine wpAnyH_ready (rs := [8]) (by kernel_rfl) (by simp) ?_
    refine AllReadyH.cons rfl (fun K hK => ?_) AllReadyH.nil
    go_simp
    refine hK.out _ _ (HM1.out.alloc _).drew.ws (fun hH => ?_)
    clear hK K
    clear hH
    refine stepH2 9 24 (by kernel_rfl) rfl rfl rfl _ _ _ rfl Tryz.func34 rfl rfl _ _ rfl rfl (mByte HM1.out a.k e0.1 (by omega) (by omega)) ?_
    rintro e w3 ⟨rfl, h3⟩
    have H3 := Lib.hid h3
    clear h3
    refine ⟨H3.out.ws, fun hH => ?_⟩
    simp only [List.setIfInBounds_toArray, List.set_cons_zero, List.set_cons_succ]
    refine wpAnyH_done (by kernel_rfl) ?_ _
    go_wp2_with fail
    go_meet
    exact H3.out
  case rest =>
  obtain ⟨W2, rfl⟩ : ∃ V : World, V = wc := ⟨_, rfl⟩
  have HM2 := Lib.hid hcut
  have d2 : W2.cell? ⟨q, 1, none⟩ = some (.int .i64 a.k) := (hcut.cq 1).trans rfl
  clear hcut HM1
  obtain ⟨b2, hb2⟩ : ∃ x, x = b1.put [a.k] := ⟨_, rfl⟩
  rw [← hb2] at HM2
  have HB2 : Hid (b2 = (b.text a.key).put [a.k]) := Lib.hid (by rw [hb2, HB1.out])
  clear hb2
  obtain ⟨k, hk⟩ : ∃ k, k = a.k := ⟨_, rfl⟩
  rw [← hk] at d2
  have HK := Lib.hid hk
  rcases (show k = 0 ∨ k = 1 ∨ k = 2 by omega) with h | h | h
  · have k0 : (k == 0) = true := by rw [h]; rfl
    have HH := Lib.hid h
    clear h hk e0
    go_upto_region 5 with fail
    refine wp_region_held_drew (S := WS wb g (b2).st q (atrA a)) (by kernel_rfl) HM2.out.drew.ws (fun hH => ?_)
    refine takeH 0 30 rfl (by kernel_rfl) (by kernel_rfl) (by kernel_rfl) (v := ?_) (fun _ _ _ h => h) rfl (by rfl) ?_ hH ?_
    case refine_2 => intro w hSw; clear hSw; go_simp; try with_reducible rfl
    simp only [List.setIfInBounds_toArray, List.set_cons_zero, List.set_cons_succ]
    refine takeH 1 31 rfl (by kernel_rfl) (by kernel_rfl) (by kernel_rfl) (v := ?_) (fun _ _ _ h => h) rfl (by rfl) ?_ hH ?_
    case refine_2 => intro w hSw; clear hSw; go_simp; try with_reducible rfl
    simp only [List.setIfInBounds_toArray, List.set_cons_zero, List.set_cons_succ]
    refine takeH 2 32 rfl (by kernel_rfl) (by kernel_rfl) (by kernel_rfl) (v := ?_) (fun _ _ _ h => h) rfl (by rfl) ?_ hH ?_
    case refine_2 => intro w hSw; clear hSw; go_simp; try with_reducible rfl
    simp only [List.setIfInBounds_toArray, List.set_cons_zero, List.set_cons_succ]
    refine takeH 3 33 rfl (by kernel_rfl) (by kernel_rfl) (by kernel_rfl) (v := ?_) (fun _ _ _ h => h) rfl (by rfl) ?_ hH ?_
    case refine_2 => intro w hSw; have x0 := hSw.1; clear hSw; go_simp; try with_reducible rfl
    simp only [List.setIfInBounds_toArray, List.set_cons_zero, List.set_cons_succ]
    refine takeH 4 34 rfl (by kernel_rfl) (by kernel_rfl) (by kernel_rfl) (v := ?_) (fun _ _ _ h => h) rfl (by rfl) ?_ hH ?_
    case refine_2 => intro w hSw; clear hSw; go_simp; try with_reducible rfl
    simp only [List.setIfInBounds_toArray, List.set_cons_zero, List.set_cons_succ]
    refine takeH 5 35 rfl (by kernel_rfl) (by kernel_rfl) (by kernel_rfl) (v := ?_) (fun _ _ _ h => h) rfl (by rfl) ?_ hH ?_
    case refine_2 => intro w hSw; clear hSw; go_simp; try with_reducible rfl
    simp only [List.setIfInBounds_toArray, List.set_cons_zero, List.set_cons_succ]
    refine takeH 6 36 rfl (by kernel_rfl) (by kernel_rfl) (by kernel_rfl) (v := ?_) (fun _ _ _ h => h) rfl (by rfl) ?_ hH ?_
    case refine_2 => intro w hSw; clear hSw; go_simp; try with_reducible rfl
    simp only [List.setIfInBounds_toArray, List.set_cons_zero, List.set_cons_succ]
    refine takeH 7 37 rfl (by kernel_rfl) (by kernel_rfl) (by kernel_rfl) (v := ?_) (fun _ _ _ h => h) rfl (by rfl) ?_ hH ?_
    case refine_2 => intro w hSw; clear hSw; go_simp; try with_reducible rfl
    simp only [List.setIfInBounds_toArray, List.set_cons_zero, List.set_cons_succ]
    refine takeH 8 38 rfl (by kernel_rfl) (by kernel_rfl) (by kernel_rfl) (v := ?_) (fun _ _ _ h => h) rfl (by rfl) ?_ hH ?_
    case refine_2 => intro w hSw; clear hSw; go_simp; try with_reducible rfl
    simp only [List.setIfInBounds_toArray, List.set_cons_zero, List.set_cons_succ]
    refine takeH 9 39 rfl (by kernel_rfl) (by kernel_rfl) (by kernel_rfl) (v := ?_) (fun _ _ _ h => h) rfl (by rfl) ?_ hH ?_
    case refine_2 => intro w hSw; have x1 : w.cell? ⟨q, 2, none⟩ = some (.string a.t) := (hSw.2.2 2).trans rfl; clear hSw; go_simp; try with_reducible rfl
    simp only [List.setIfInBounds_toArray, List.set_cons_zero, List.set_cons_succ]
    clear hH
    refine stepH2 10 40 (by kernel_rfl) rfl rfl rfl _ _ _ rfl Tryz.func79 rfl rfl _ _ rfl rfl (mText HM2.out.drew a.t HA.out.t (by omega)) ?_
    rintro e w3 ⟨rfl, h3⟩
    have H3 := Lib.hid h3
    clear h3
    refine ⟨H3.out.ws, fun hH => ?_⟩
    simp only [List.setIfInBounds_toArray, List.set_cons_zero, List.set_cons_succ]
    clear hH
    refine stepH2 11 41 (by kernel_rfl) rfl rfl rfl _ _ _ rfl Tryz.func35 rfl rfl _ _ rfl rfl (mTextN H3.out (by omega) (HM2.out.idxT a.t (by omega))) ?_
    rintro e w4 ⟨rfl, h4⟩
    have H4 := Lib.hid h4
    clear h4
    refine ⟨H4.out.ws, fun hH => ?_⟩
    simp only [List.setIfInBounds_toArray, List.set_cons_zero, List.set_cons_succ]
    refine wpAnyH_done (by kernel_rfl) ?_ _
    go_wp2_with fail
    go_end0
    have e : b.attr a = b2.text a.t := by unfold BW.attr; rw [if_pos (by rw [← HK.out, HH.out]), HB2.out]
    rw [e]
    exact ⟨rfl, H4.out.at_.mono (by omega), H4.out.ap⟩
  · have k0 : (k == 0) = false := by rw [h]; rfl
    have k1 : (k == 1) = true := by rw [h]; rfl
    have HH := Lib.hid h
    have i0 := HA.out.i
    clear h hk e0
    go_upto_region 7 with fail
    refine wp_region_held_drew (S := WS wb g (b2).st q (atrA a)) (by kernel_rfl) HM2.out.drew.ws (fun hH => ?_)
    refine takeH 0 44 rfl (by kernel_rfl) (by kernel_rfl) (by kernel_rfl) (v := ?_) (fun _ _ _ h => h) rfl (by rfl) ?_ hH ?_
    case refine_2 => intro w hSw; clear hSw; go_simp; try with_reducible rfl
    simp only [List.setIfInBounds_toArray, List.set_cons_zero, List.set_cons_succ]
    refine takeH 1 45 rfl (by kernel_rfl) (by kernel_rfl) (by kernel_rfl) (v := ?_) (fun _ _ _ h => h) rfl (by rfl) ?_ hH ?_
    case refine_2 => intro w hSw; clear hSw; go_simp; try with_reducible rfl
    simp only [List.setIfInBounds_toArray, List.set_cons_zero, List.set_cons_succ]
    refine takeH 2 46 rfl (by kernel_rfl) (by kernel_rfl) (by kernel_rfl) (v := ?_) (fun _ _ _ h => h) rfl (by rfl) ?_ hH ?_
    case refine_2 => intro w hSw; clear hSw; go_simp; try with_reducible rfl
    simp only [List.setIfInBounds_toArray, List.set_cons_zero, List.set_cons_succ]
    refine takeH 3 47 rfl (by kernel_rfl) (by kernel_rfl) (by kernel_rfl) (v := ?_) (fun _ _ _ h => h) rfl (by rfl) ?_ hH ?_
    case refine_2 => intro w hSw; have x0 := hSw.1; clear hSw; go_simp; try with_reducible rfl
    simp only [List.setIfInBounds_toArray, List.set_cons_zero, List.set_cons_succ]
    refine takeH 4 48 rfl (by kernel_rfl) (by kernel_rfl) (by kernel_rfl) (v := ?_) (fun _ _ _ h => h) rfl (by rfl) ?_ hH ?_
    case refine_2 => intro w hSw; clear hSw; go_simp; try with_reducible rfl
    simp only [List.setIfInBounds_toArray, List.set_cons_zero, List.set_cons_succ]
    refine takeH 5 49 rfl (by kernel_rfl) (by kernel_rfl) (by kernel_rfl) (v := ?_) (fun _ _ _ h => h) rfl (by rfl) ?_ hH ?_
    case refine_2 => intro w hSw; clear hSw; go_simp; try with_reducible rfl
    simp only [List.setIfInBounds_toArray, List.set_cons_zero, List.set_cons_succ]
    refine takeH 6 50 rfl (by kernel_rfl) (by kernel_rfl) (by kernel_rfl) (v := ?_) (fun _ _ _ h => h) rfl (by rfl) ?_ hH ?_
    case refine_2 => intro w hSw; have x1 : w.cell? ⟨q, 3, none⟩ = some (.int .i64 a.i) := (hSw.2.2 3).trans rfl; clear hSw; go_simp; try with_reducible rfl
    simp only [List.setIfInBounds_toArray, List.set_cons_zero, List.set_cons_succ]
    clear hH
    refine stepH2 7 51 (by kernel_rfl) rfl rfl rfl _ _ _ rfl Tryz.func80 rfl rfl _ _ rfl rfl (mInt HM2.out.drew a.i i0.1 i0.2 (by omega)) ?_
    rintro e w3 ⟨rfl, h3⟩
    have H3 := Lib.hid h3
    clear h3
    refine ⟨H3.out.ws, fun hH => ?_⟩
    simp only [List.setIfInBounds_toArray, List.set_cons_zero, List.set_cons_succ]
    refine wpAnyH_done (by kernel_rfl) ?_ _
    go_wp2_with fail
    go_end0
    have e : b.attr a = b2.put (venc (zig a.i).toNat) := by unfold BW.attr; rw [if_neg (by rw [← HK.out, HH.out]; decide), if_pos (by rw [← HK.out, HH.out]), HB2.out]
    rw [e]
    exact ⟨rfl, H3.out.at_.mono (by omega), H3.out.ap⟩
  · have k0 : (k == 0) = false := by rw [h]; rfl
    have k1 : (k == 1) = false := by rw [h]; rfl
    have k2 : (k == 2) = true := by rw [h]; rfl
    have HH := Lib.hid h
    have i0 := HA.out.b (by rw [← hk]; exact h)
    clear h hk e0
    go_upto_region 9 with fail
    refine wp_region_held_drew (S := WS wb g (b2).st q (atrA a)) (by kernel_rfl) HM2.out.drew.ws (fun hH => ?_)
    refine takeH 0 54 rfl (by kernel_rfl) (by kernel_rfl) (by kernel_rfl) (v := ?_) (fun _ _ _ h => h) rfl (by rfl) ?_ hH ?_
    case refine_2 => intro w hSw; clear hSw; go_simp; try with_reducible rfl
    simp only [List.setIfInBounds_toArray, List.set_cons_zero, List.set_cons_succ]
    refine takeH 1 55 rfl (by kernel_rfl) (by kernel_rfl) (by kernel_rfl) (v := ?_) (fun _ _ _ h => h) rfl (by rfl) ?_ hH ?_
    case refine_2 => intro w hSw; clear hSw; go_simp; try with_reducible rfl
    simp only [List.setIfInBounds_toArray, List.set_cons_zero, List.set_cons_succ]
    refine takeH 2 56 rfl (by kernel_rfl) (by kernel_rfl) (by kernel_rfl) (v := ?_) (fun _ _ _ h => h) rfl (by rfl) ?_ hH ?_
    case refine_2 => intro w hSw; clear hSw; go_simp; try with_reducible rfl
    simp only [List.setIfInBounds_toArray, List.set_cons_zero, List.set_cons_succ]
    refine takeH 3 57 rfl (by kernel_rfl) (by kernel_rfl) (by kernel_rfl) (v := ?_) (fun _ _ _ h => h) rfl (by rfl) ?_ hH ?_
    case refine_2 => intro w hSw; have x0 := hSw.1; clear hSw; go_simp; try with_reducible rfl
    simp only [List.setIfInBounds_toArray, List.set_cons_zero, List.set_cons_succ]
    refine takeH 4 58 rfl (by kernel_rfl) (by kernel_rfl) (by kernel_rfl) (v := ?_) (fun _ _ _ h => h) rfl (by rfl) ?_ hH ?_
    case refine_2 => intro w hSw; clear hSw; go_simp; try with_reducible rfl
    simp only [List.setIfInBounds_toArray, List.set_cons_zero, List.set_cons_succ]
    refine takeH 5 59 rfl (by kernel_rfl) (by kernel_rfl) (by kernel_rfl) (v := ?_) (fun _ _ _ h => h) rfl (by rfl) ?_ hH ?_
    case refine_2 => intro w hSw; clear hSw; go_simp; try with_reducible rfl
    simp only [List.setIfInBounds_toArray, List.set_cons_zero, List.set_cons_succ]
    refine takeH 6 60 rfl (by kernel_rfl) (by kernel_rfl) (by kernel_rfl) (v := ?_) (fun _ _ _ h => h) rfl (by rfl) ?_ hH ?_
    case refine_2 => intro w hSw; have x1 : w.cell? ⟨q, 3, none⟩ = some (.int .i64 a.i) := (hSw.2.2 3).trans rfl; clear hSw; go_simp; try with_reducible rfl
    simp only [List.setIfInBounds_toArray, List.set_cons_zero, List.set_cons_succ]
    refine takeH 7 61 rfl (by kernel_rfl) (by kernel_rfl) (by kernel_rfl) (v := ?_) (fun _ _ _ h => h) rfl (by rfl) ?_ hH ?_
    case refine_2 => intro w hSw; clear hSw; go_simp; try with_reducible rfl
    simp only [List.setIfInBounds_toArray, List.set_cons_zero, List.set_cons_succ]
    clear hH
    refine wpAnyH_ready (rs := [8]) (by kernel_rfl) (by simp) ?_
    refine AllReadyH.cons rfl (fun K hK => ?_) AllReadyH.nil
    go_simp
    refine hK.out _ _ (HM2.out.alloc _).drew.ws (fun hH => ?_)
    clear hK K
    clear hH
    refine stepH2 9 63 (by kernel_rfl) rfl rfl rfl _ _ _ rfl Tryz.func34 rfl rfl _ _ rfl rfl (mByte HM2.out a.i i0.1 (by omega) (by omega)) ?_
    rintro e w3 ⟨rfl, h3⟩
    have H3 := Lib.hid h3
    clear h3
    refine ⟨H3.out.ws, fun hH => ?_⟩
    simp only [List.setIfInBounds_toArray, List.set_cons_zero, List.set_cons_succ]
    refine wpAnyH_done (by kernel_rfl) ?_ _
    go_wp2_with fail
    go_end0
    have e : b.attr a = b2.put [a.i] := by unfold BW.attr; rw [if_neg (by rw [← HK.out, HH.out]; decide), if_neg (by rw [← HK.out, HH.out]; decide), if_pos (by rw [← HK.out, HH.out]), HB2.out]
    rw [e]
    exact ⟨rfl, H3.out.at_.mono (by omega), H3.out.ap⟩
theorem mAttr {wb g mt mr N q : Nat} {w0 w W : World} {b : BW} {cs : Array Value} {T : TypeId} (h : WMid wb g mt mr w0 b N w q cs T W) (a : Atr) (ha : AtrOk a) (hN : N ≤ 880000) :
    Calls Tryz.prog 81 #[.pointer (some ⟨wb, 0, none⟩), .agg (atrA a)] W (MPost wb g mt mr w0 (b.attr a) (N + 23) w q cs T (.tuple #[])) :=
  (attr_any h.at_ a ha hN).mono fun _ _ hp => h.call hp
end Go.Proofs.YtlcbgklealipoaaGreatDoor
