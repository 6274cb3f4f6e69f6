/- writer.span: a span, laid down (the walk; printed by gen_r5.py). -/
import Derived.Test.YtlcbgklealipoaaGreatDoorR4
import Derived.Test.YtlcbgklealipoaaGreatDoorZK
import Derived.Test.YtlcbgklealipoaaGreatDoorZR
import Derived.Deep.DeepCutAuto
namespace Go.Proofs.YtlcbgklealipoaaGreatDoor
open Go Go.RowKit
set_option linter.unusedVariables false
set_option linter.unusedSimpArgs false

theorem each_at {α : Type} {P : List α → α → Prop} {l : List α} (h : Each P l) {k : Nat} {x : α} (hx : l[k]? = some x) : P (l.take k) x := by
  have hk := (List.getElem?_eq_some_iff.1 hx).1
  have e := (List.getElem?_eq_some_iff.1 hx).2
  refine h (l.take k) x (l.drop (k + 1)) ?_
  rw [← e, ← List.drop_eq_getElem_cons hk, List.take_append_drop]
theorem atrOk_of {a : Atr} (h : keyedS a.key = true ∧ valuedS a = true) (hi : -9223372036854775808 ≤ a.i ∧ a.i < 9223372036854775808) (hk : a.key.size ≤ 9223372036854775807) (ht : a.t.size ≤ 9223372036854775807) : AtrOk a := by
  have hv := h.2
  unfold valuedS at hv
  refine ⟨?_, hk, ht, hi, ?_⟩
  · by_cases h0 : a.k = 0
    · omega
    · rw [if_neg h0] at hv
      by_cases h1 : a.k = 1
      · omega
      · rw [if_neg h1] at hv
        by_cases h2 : a.k = 2
        · omega
        · rw [if_neg h2] at hv; cases hv
  · intro h2
    rw [if_neg (by omega), if_neg (by omega), if_pos h2] at hv
    simp only [Bool.and_eq_true, decide_eq_true_eq] at hv
    omega
set_option maxHeartbeats 64000000 in
set_option maxRecDepth 100000 in
theorem wspan_any {wb g mt mr N : Nat} {w0 w : World} {b : BW} (h : WAt wb g mt mr w0 b N w) (s : Spn) (lv av ev : Value) (hs : SReads w0 s lv av ev) (hc : checkS s = 0) (hr : Fits s) (hz : Sized s) (hb : 0 ≤ b.st ∧ b.st ≤ 4611686018427387904) (hN : N ≤ 850000) :
    Calls Tryz.prog 33 #[.pointer (some ⟨wb, 0, none⟩), .agg (s.cells lv av ev)] w (WPost wb g mt mr w0 (b.span s) (N + 1668) w (.tuple #[])) := by
  have hf := fine_of hc
  have hrw := rows_of hc hr
  obtain ⟨sb, hq⟩ : ∃ q, q = w.heap.size := ⟨_, rfl⟩
  obtain ⟨W, hW⟩ : ∃ W, W = w.alloc (.cells (s.cells lv av ev) 76) := ⟨_, rfl⟩
  have hm : WMid wb g mt mr w0 (b) (N + 0) w sb (s.cells lv av ev) 76 W := by
    rw [hW]
    exact ⟨h.alloc _, .of_kept (.alloc _ _ _), by rw [hq]; exact heap_alloc_new w _, by decide, by decide, by decide, by decide, by decide⟩
  have HM := Lib.hid hm
  have HF := Lib.hid hf
  have HR := Lib.hid hr
  have HZ := Lib.hid hz
  have HRW := Lib.hid hrw
  have HS := Lib.hid hs
  obtain ⟨⟨slA, slc, hlv, -⟩, ⟨saA, sac, hav, -⟩, ⟨seA, sec, hev, -⟩, -, -, -⟩ := hs
  obtain ⟨st0, hst0⟩ : ∃ x, x = b.st := ⟨_, rfl⟩
  rw [← hst0] at hb
  obtain ⟨hb0, hb1⟩ := hb
  have f1 := hf.start.1
  have f2 := hf.start.2.1
  have f3 := hf.start.2.2
  have f4 := hf.kind.1
  have f5 := hf.kind.2
  have f6 := hf.st.1
  have f7 := hf.st.2
  have f8 := hf.links
  have f9 := hf.ats.1
  have f10 := hf.evs.1
  have HV := Lib.hid (And.intro hlv (And.intro hav hev))
  have HST := Lib.hid hst0
  obtain ⟨X, hX⟩ : ∃ X, X = s.cells lv av ev := ⟨_, rfl⟩
  have hWX : w.alloc (.cells X 76) = W := by rw [hX]; exact hW.symm
  rw [← hX]
  have HX := Lib.hid hX
  clear hm h hW hX hf hrw hr hz hc hlv hav hev hst0
  go_enter Tryz.func33, Tryz.ntmps33
  go_upto_region 1 with fail
  rw [← hq]
  have HQ := Lib.hid hq
  clear hq hWX
  have hok : okP (s.hi, s.lo) := ⟨HR.out.hi, HR.out.lo⟩
  go_cut [] (fun wx => WMid wb g mt mr w0 (b.trace (s.hi, s.lo)) (N + 11) w sb (s.cells lv av ev) 76 wx)
  case first =>
   as_aux_lemma =>
    refine wp_region_held_drew (S := WS wb g (b).st sb (s.cells lv av ev)) (by kernel_rfl) HM.out.drew.ws (fun hH => ?_)
    refine takeH 0 12 rfl (by kernel_rfl) (by kernel_rfl) (by kernel_rfl) (v := ?_) (fun _ _ _ h => h) rfl (by rfl) ?_ hH ?_
    case refine_2 => intro w hSw; clear hSw; go_simp; try with_reducible rfl
    simp only [List.setIfInBounds_toArray, List.set_cons_zero, List.set_cons_succ]
    refine takeH 1 13 rfl (by kernel_rfl) (by kernel_rfl) (by kernel_rfl) (v := ?_) (fun _ _ _ h => h) rfl (by rfl) ?_ hH ?_
    case refine_2 => intro w hSw; clear hSw; go_simp; try with_reducible rfl
    simp only [List.setIfInBounds_toArray, List.set_cons_zero, List.set_cons_succ]
    refine takeH 2 14 rfl (by kernel_rfl) (by kernel_rfl) (by kernel_rfl) (v := ?_) (fun _ _ _ h => h) rfl (by rfl) ?_ hH ?_
    case refine_2 => intro w hSw; clear hSw; go_simp; try with_reducible rfl
    simp only [List.setIfInBounds_toArray, List.set_cons_zero, List.set_cons_succ]
    refine takeH 3 15 rfl (by kernel_rfl) (by kernel_rfl) (by kernel_rfl) (v := ?_) (fun _ _ _ h => h) rfl (by rfl) ?_ hH ?_
    case refine_2 => intro w hSw; have x0 := hSw.1; clear hSw; go_simp; try with_reducible rfl
    simp only [List.setIfInBounds_toArray, List.set_cons_zero, List.set_cons_succ]
    refine takeH 4 16 rfl (by kernel_rfl) (by kernel_rfl) (by kernel_rfl) (v := ?_) (fun _ _ _ h => h) rfl (by rfl) ?_ hH ?_
    case refine_2 => intro w hSw; clear hSw; go_simp; try with_reducible rfl
    simp only [List.setIfInBounds_toArray, List.set_cons_zero, List.set_cons_succ]
    refine takeH 5 17 rfl (by kernel_rfl) (by kernel_rfl) (by kernel_rfl) (v := ?_) (fun _ _ _ h => h) rfl (by rfl) ?_ hH ?_
    case refine_2 => intro w hSw; clear hSw; go_simp; try with_reducible rfl
    simp only [List.setIfInBounds_toArray, List.set_cons_zero, List.set_cons_succ]
    refine takeH 6 18 rfl (by kernel_rfl) (by kernel_rfl) (by kernel_rfl) (v := ?_) (fun _ _ _ h => h) rfl (by rfl) ?_ hH ?_
    case refine_2 => intro w hSw; clear hSw; go_simp; try with_reducible rfl
    simp only [List.setIfInBounds_toArray, List.set_cons_zero, List.set_cons_succ]
    refine takeH 7 19 rfl (by kernel_rfl) (by kernel_rfl) (by kernel_rfl) (v := ?_) (fun _ _ _ h => h) rfl (by rfl) ?_ hH ?_
    case refine_2 => intro w hSw; clear hSw; go_simp; try with_reducible rfl
    simp only [List.setIfInBounds_toArray, List.set_cons_zero, List.set_cons_succ]
    refine takeH 8 20 rfl (by kernel_rfl) (by kernel_rfl) (by kernel_rfl) (v := ?_) (fun _ _ _ h => h) rfl (by rfl) ?_ hH ?_
    case refine_2 => intro w hSw; have x1 : w.cell? ⟨sb, 0, none⟩ = some (.int .u64 s.hi) := (hSw.2.2 0).trans rfl; have x2 : w.cell? ⟨sb, 1, none⟩ = some (.int .u64 s.lo) := (hSw.2.2 1).trans rfl; clear hSw; go_simp; try with_reducible rfl
    simp only [List.setIfInBounds_toArray, List.set_cons_zero, List.set_cons_succ]
    clear hH
    refine stepH2 9 21 (by kernel_rfl) rfl rfl rfl _ _ _ rfl Tryz.func78 rfl rfl _ _ rfl rfl (mTrace HM.out.drew (s.hi, s.lo) hok (by omega)) ?_
    rintro e w3 ⟨rfl, h3⟩
    have H3 := Lib.hid h3
    clear h3
    refine ⟨H3.out.ws, fun hH => ?_⟩
    simp only [List.setIfInBounds_toArray, List.set_cons_zero, List.set_cons_succ]
    clear hH
    refine stepH2 10 22 (by kernel_rfl) rfl rfl rfl _ _ _ rfl Tryz.func35 rfl rfl _ _ rfl rfl (mTraceN H3.out (by omega) (HM.out.idxR (s.hi, s.lo) (by omega))) ?_
    rintro e w4 ⟨rfl, h4⟩
    have H4 := Lib.hid h4
    clear h4
    refine ⟨H4.out.ws, fun hH => ?_⟩
    simp only [List.setIfInBounds_toArray, List.set_cons_zero, List.set_cons_succ]
    refine wpAnyH_done (by kernel_rfl) ?_ _
    go_wp2_with fail
    go_meet
    exact H4.out
  case rest =>
  obtain ⟨W1, rfl⟩ : ∃ V : World, V = wc := ⟨_, rfl⟩
  obtain ⟨b1, hb1⟩ : ∃ x, x = b.trace (s.hi, s.lo) := ⟨_, rfl⟩
  rw [← hb1] at hcut
  have HB1 := Lib.hid hb1
  clear hb1
  have HM1 := Lib.hid hcut
  clear hcut
  clear HM hok
  go_upto_region 2 with fail
  go_cut [] (fun wx => WMid wb g mt mr w0 (b1.put (raw8 s.id)) (N + 19) w sb (s.cells lv av ev) 76 wx)
  case first =>
   as_aux_lemma =>
    refine wp_region_held_drew (S := WS wb g (b1).st sb (s.cells lv av ev)) (by kernel_rfl) HM1.out.drew.ws (fun hH => ?_)
    refine takeH 0 23 rfl (by kernel_rfl) (by kernel_rfl) (by kernel_rfl) (v := ?_) (fun _ _ _ h => h) rfl (by rfl) ?_ hH ?_
    case refine_2 => intro w hSw; clear hSw; go_simp; try with_reducible rfl
    simp only [List.setIfInBounds_toArray, List.set_cons_zero, List.set_cons_succ]
    refine takeH 1 24 rfl (by kernel_rfl) (by kernel_rfl) (by kernel_rfl) (v := ?_) (fun _ _ _ h => h) rfl (by rfl) ?_ hH ?_
    case refine_2 => intro w hSw; clear hSw; go_simp; try with_reducible rfl
    simp only [List.setIfInBounds_toArray, List.set_cons_zero, List.set_cons_succ]
    refine takeH 2 25 rfl (by kernel_rfl) (by kernel_rfl) (by kernel_rfl) (v := ?_) (fun _ _ _ h => h) rfl (by rfl) ?_ hH ?_
    case refine_2 => intro w hSw; clear hSw; go_simp; try with_reducible rfl
    simp only [List.setIfInBounds_toArray, List.set_cons_zero, List.set_cons_succ]
    refine takeH 3 26 rfl (by kernel_rfl) (by kernel_rfl) (by kernel_rfl) (v := ?_) (fun _ _ _ h => h) rfl (by rfl) ?_ hH ?_
    case refine_2 => intro w hSw; have x0 := hSw.1; clear hSw; go_simp; try with_reducible rfl
    simp only [List.setIfInBounds_toArray, List.set_cons_zero, List.set_cons_succ]
    refine takeH 4 27 rfl (by kernel_rfl) (by kernel_rfl) (by kernel_rfl) (v := ?_) (fun _ _ _ h => h) rfl (by rfl) ?_ hH ?_
    case refine_2 => intro w hSw; clear hSw; go_simp; try with_reducible rfl
    simp only [List.setIfInBounds_toArray, List.set_cons_zero, List.set_cons_succ]
    refine takeH 5 28 rfl (by kernel_rfl) (by kernel_rfl) (by kernel_rfl) (v := ?_) (fun _ _ _ h => h) rfl (by rfl) ?_ hH ?_
    case refine_2 => intro w hSw; have x3 : w.cell? ⟨sb, 2, none⟩ = some (.int .u64 s.id) := (hSw.2.2 2).trans rfl; clear hSw; go_simp; try with_reducible rfl
    simp only [List.setIfInBounds_toArray, List.set_cons_zero, List.set_cons_succ]
    clear hH
    refine stepH1 6 29 (by kernel_rfl) rfl rfl rfl _ _ rfl Tryz.func37 rfl rfl _ rfl (mRaw8 HM1.out.drew s.id HR.out.id) ?_
    rintro e w3 ⟨v3, rfl, r3, h3⟩
    have H3 := Lib.hid (And.intro h3 r3)
    clear h3 r3
    refine ⟨H3.out.1.ws, fun hH => ?_⟩
    simp only [List.setIfInBounds_toArray, List.set_cons_zero, List.set_cons_succ]
    clear hH
    refine stepH2 7 30 (by kernel_rfl) rfl rfl rfl _ _ _ rfl Tryz.func34 rfl rfl _ _ rfl rfl (mRaw H3.out.1 v3 (raw8 s.id) H3.out.2 (by rw [raw8_len]; omega) (by omega)) ?_
    rintro e w4 ⟨rfl, h4⟩
    have H4 := Lib.hid h4
    clear h4
    refine ⟨H4.out.ws, fun hH => ?_⟩
    simp only [List.setIfInBounds_toArray, List.set_cons_zero, List.set_cons_succ]
    refine wpAnyH_done (by kernel_rfl) ?_ _
    go_wp2_with fail
    go_meet
    exact H4.out
  case rest =>
  obtain ⟨W2, rfl⟩ : ∃ V : World, V = wc := ⟨_, rfl⟩
  obtain ⟨b2, hb2⟩ : ∃ x, x = b1.put (raw8 s.id) := ⟨_, rfl⟩
  rw [← hb2] at hcut
  have HB2 := Lib.hid hb2
  clear hb2
  have HM2 := Lib.hid hcut
  clear hcut
  clear HM1
  go_upto_region 3 with fail
  go_cut [] (fun wx => WMid wb g mt mr w0 (b2.put (raw8 s.par)) (N + 27) w sb (s.cells lv av ev) 76 wx)
  case first =>
   as_aux_lemma =>
    refine wp_region_held_drew (S := WS wb g (b2).st sb (s.cells lv av ev)) (by kernel_rfl) HM2.out.drew.ws (fun hH => ?_)
    refine takeH 0 31 rfl (by kernel_rfl) (by kernel_rfl) (by kernel_rfl) (v := ?_) (fun _ _ _ h => h) rfl (by rfl) ?_ hH ?_
    case refine_2 => intro w hSw; clear hSw; go_simp; try with_reducible rfl
    simp only [List.setIfInBounds_toArray, List.set_cons_zero, List.set_cons_succ]
    refine takeH 1 32 rfl (by kernel_rfl) (by kernel_rfl) (by kernel_rfl) (v := ?_) (fun _ _ _ h => h) rfl (by rfl) ?_ hH ?_
    case refine_2 => intro w hSw; clear hSw; go_simp; try with_reducible rfl
    simp only [List.setIfInBounds_toArray, List.set_cons_zero, List.set_cons_succ]
    refine takeH 2 33 rfl (by kernel_rfl) (by kernel_rfl) (by kernel_rfl) (v := ?_) (fun _ _ _ h => h) rfl (by rfl) ?_ hH ?_
    case refine_2 => intro w hSw; clear hSw; go_simp; try with_reducible rfl
    simp only [List.setIfInBounds_toArray, List.set_cons_zero, List.set_cons_succ]
    refine takeH 3 34 rfl (by kernel_rfl) (by kernel_rfl) (by kernel_rfl) (v := ?_) (fun _ _ _ h => h) rfl (by rfl) ?_ hH ?_
    case refine_2 => intro w hSw; have x0 := hSw.1; clear hSw; go_simp; try with_reducible rfl
    simp only [List.setIfInBounds_toArray, List.set_cons_zero, List.set_cons_succ]
    refine takeH 4 35 rfl (by kernel_rfl) (by kernel_rfl) (by kernel_rfl) (v := ?_) (fun _ _ _ h => h) rfl (by rfl) ?_ hH ?_
    case refine_2 => intro w hSw; clear hSw; go_simp; try with_reducible rfl
    simp only [List.setIfInBounds_toArray, List.set_cons_zero, List.set_cons_succ]
    refine takeH 5 36 rfl (by kernel_rfl) (by kernel_rfl) (by kernel_rfl) (v := ?_) (fun _ _ _ h => h) rfl (by rfl) ?_ hH ?_
    case refine_2 => intro w hSw; have x4 : w.cell? ⟨sb, 3, none⟩ = some (.int .u64 s.par) := (hSw.2.2 3).trans rfl; clear hSw; go_simp; try with_reducible rfl
    simp only [List.setIfInBounds_toArray, List.set_cons_zero, List.set_cons_succ]
    clear hH
    refine stepH1 6 37 (by kernel_rfl) rfl rfl rfl _ _ rfl Tryz.func37 rfl rfl _ rfl (mRaw8 HM2.out.drew s.par HR.out.par) ?_
    rintro e w3 ⟨v3, rfl, r3, h3⟩
    have H3 := Lib.hid (And.intro h3 r3)
    clear h3 r3
    refine ⟨H3.out.1.ws, fun hH => ?_⟩
    simp only [List.setIfInBounds_toArray, List.set_cons_zero, List.set_cons_succ]
    clear hH
    refine stepH2 7 38 (by kernel_rfl) rfl rfl rfl _ _ _ rfl Tryz.func34 rfl rfl _ _ rfl rfl (mRaw H3.out.1 v3 (raw8 s.par) H3.out.2 (by rw [raw8_len]; omega) (by omega)) ?_
    rintro e w4 ⟨rfl, h4⟩
    have H4 := Lib.hid h4
    clear h4
    refine ⟨H4.out.ws, fun hH => ?_⟩
    simp only [List.setIfInBounds_toArray, List.set_cons_zero, List.set_cons_succ]
    refine wpAnyH_done (by kernel_rfl) ?_ _
    go_wp2_with fail
    go_meet
    exact H4.out
  case rest =>
  obtain ⟨W3, rfl⟩ : ∃ V : World, V = wc := ⟨_, rfl⟩
  obtain ⟨b3, hb3⟩ : ∃ x, x = b2.put (raw8 s.par) := ⟨_, rfl⟩
  rw [← hb3] at hcut
  have HB3 := Lib.hid hb3
  clear hb3
  have HM3 := Lib.hid hcut
  clear hcut
  clear HM2
  go_upto_region 4 with fail
  go_cut [] (fun wx => WMid wb g mt mr w0 (b3.text s.svc) (N + 38) w sb (s.cells lv av ev) 76 wx)
  case first =>
   as_aux_lemma =>
    refine wp_region_held_drew (S := WS wb g (b3).st sb (s.cells lv av ev)) (by kernel_rfl) HM3.out.drew.ws (fun hH => ?_)
    refine takeH 0 39 rfl (by kernel_rfl) (by kernel_rfl) (by kernel_rfl) (v := ?_) (fun _ _ _ h => h) rfl (by rfl) ?_ hH ?_
    case refine_2 => intro w hSw; clear hSw; go_simp; try with_reducible rfl
    simp only [List.setIfInBounds_toArray, List.set_cons_zero, List.set_cons_succ]
    refine takeH 1 40 rfl (by kernel_rfl) (by kernel_rfl) (by kernel_rfl) (v := ?_) (fun _ _ _ h => h) rfl (by rfl) ?_ hH ?_
    case refine_2 => intro w hSw; clear hSw; go_simp; try with_reducible rfl
    simp only [List.setIfInBounds_toArray, List.set_cons_zero, List.set_cons_succ]
    refine takeH 2 41 rfl (by kernel_rfl) (by kernel_rfl) (by kernel_rfl) (v := ?_) (fun _ _ _ h => h) rfl (by rfl) ?_ hH ?_
    case refine_2 => intro w hSw; clear hSw; go_simp; try with_reducible rfl
    simp only [List.setIfInBounds_toArray, List.set_cons_zero, List.set_cons_succ]
    refine takeH 3 42 rfl (by kernel_rfl) (by kernel_rfl) (by kernel_rfl) (v := ?_) (fun _ _ _ h => h) rfl (by rfl) ?_ hH ?_
    case refine_2 => intro w hSw; have x0 := hSw.1; clear hSw; go_simp; try with_reducible rfl
    simp only [List.setIfInBounds_toArray, List.set_cons_zero, List.set_cons_succ]
    refine takeH 4 43 rfl (by kernel_rfl) (by kernel_rfl) (by kernel_rfl) (v := ?_) (fun _ _ _ h => h) rfl (by rfl) ?_ hH ?_
    case refine_2 => intro w hSw; clear hSw; go_simp; try with_reducible rfl
    simp only [List.setIfInBounds_toArray, List.set_cons_zero, List.set_cons_succ]
    refine takeH 5 44 rfl (by kernel_rfl) (by kernel_rfl) (by kernel_rfl) (v := ?_) (fun _ _ _ h => h) rfl (by rfl) ?_ hH ?_
    case refine_2 => intro w hSw; clear hSw; go_simp; try with_reducible rfl
    simp only [List.setIfInBounds_toArray, List.set_cons_zero, List.set_cons_succ]
    refine takeH 6 45 rfl (by kernel_rfl) (by kernel_rfl) (by kernel_rfl) (v := ?_) (fun _ _ _ h => h) rfl (by rfl) ?_ hH ?_
    case refine_2 => intro w hSw; clear hSw; go_simp; try with_reducible rfl
    simp only [List.setIfInBounds_toArray, List.set_cons_zero, List.set_cons_succ]
    refine takeH 7 46 rfl (by kernel_rfl) (by kernel_rfl) (by kernel_rfl) (v := ?_) (fun _ _ _ h => h) rfl (by rfl) ?_ hH ?_
    case refine_2 => intro w hSw; clear hSw; go_simp; try with_reducible rfl
    simp only [List.setIfInBounds_toArray, List.set_cons_zero, List.set_cons_succ]
    refine takeH 8 47 rfl (by kernel_rfl) (by kernel_rfl) (by kernel_rfl) (v := ?_) (fun _ _ _ h => h) rfl (by rfl) ?_ hH ?_
    case refine_2 => intro w hSw; have x6 : w.cell? ⟨sb, 5, none⟩ = some (.string s.svc) := (hSw.2.2 5).trans rfl; clear hSw; go_simp; try with_reducible rfl
    simp only [List.setIfInBounds_toArray, List.set_cons_zero, List.set_cons_succ]
    clear hH
    refine stepH2 9 48 (by kernel_rfl) rfl rfl rfl _ _ _ rfl Tryz.func79 rfl rfl _ _ rfl rfl (mText HM3.out.drew s.svc HZ.out.svc (by omega)) ?_
    rintro e w3 ⟨rfl, h3⟩
    have H3 := Lib.hid h3
    clear h3
    refine ⟨H3.out.ws, fun hH => ?_⟩
    simp only [List.setIfInBounds_toArray, List.set_cons_zero, List.set_cons_succ]
    clear hH
    refine stepH2 10 49 (by kernel_rfl) rfl rfl rfl _ _ _ rfl Tryz.func35 rfl rfl _ _ rfl rfl (mTextN H3.out (by omega) (HM3.out.idxT s.svc (by omega))) ?_
    rintro e w4 ⟨rfl, h4⟩
    have H4 := Lib.hid h4
    clear h4
    refine ⟨H4.out.ws, fun hH => ?_⟩
    simp only [List.setIfInBounds_toArray, List.set_cons_zero, List.set_cons_succ]
    refine wpAnyH_done (by kernel_rfl) ?_ _
    go_wp2_with fail
    go_meet
    exact H4.out
  case rest =>
  obtain ⟨W4, rfl⟩ : ∃ V : World, V = wc := ⟨_, rfl⟩
  obtain ⟨b4, hb4⟩ : ∃ x, x = b3.text s.svc := ⟨_, rfl⟩
  rw [← hb4] at hcut
  have HB4 := Lib.hid hb4
  clear hb4
  have HM4 := Lib.hid hcut
  clear hcut
  clear HM3
  go_upto_region 5 with fail
  go_cut [] (fun wx => WMid wb g mt mr w0 (b4.text s.op) (N + 49) w sb (s.cells lv av ev) 76 wx)
  case first =>
   as_aux_lemma =>
    refine wp_region_held_drew (S := WS wb g (b4).st sb (s.cells lv av ev)) (by kernel_rfl) HM4.out.drew.ws (fun hH => ?_)
    refine takeH 0 50 rfl (by kernel_rfl) (by kernel_rfl) (by kernel_rfl) (v := ?_) (fun _ _ _ h => h) rfl (by rfl) ?_ hH ?_
    case refine_2 => intro w hSw; clear hSw; go_simp; try with_reducible rfl
    simp only [List.setIfInBounds_toArray, List.set_cons_zero, List.set_cons_succ]
    refine takeH 1 51 rfl (by kernel_rfl) (by kernel_rfl) (by kernel_rfl) (v := ?_) (fun _ _ _ h => h) rfl (by rfl) ?_ hH ?_
    case refine_2 => intro w hSw; clear hSw; go_simp; try with_reducible rfl
    simp only [List.setIfInBounds_toArray, List.set_cons_zero, List.set_cons_succ]
    refine takeH 2 52 rfl (by kernel_rfl) (by kernel_rfl) (by kernel_rfl) (v := ?_) (fun _ _ _ h => h) rfl (by rfl) ?_ hH ?_
    case refine_2 => intro w hSw; clear hSw; go_simp; try with_reducible rfl
    simp only [List.setIfInBounds_toArray, List.set_cons_zero, List.set_cons_succ]
    refine takeH 3 53 rfl (by kernel_rfl) (by kernel_rfl) (by kernel_rfl) (v := ?_) (fun _ _ _ h => h) rfl (by rfl) ?_ hH ?_
    case refine_2 => intro w hSw; have x0 := hSw.1; clear hSw; go_simp; try with_reducible rfl
    simp only [List.setIfInBounds_toArray, List.set_cons_zero, List.set_cons_succ]
    refine takeH 4 54 rfl (by kernel_rfl) (by kernel_rfl) (by kernel_rfl) (v := ?_) (fun _ _ _ h => h) rfl (by rfl) ?_ hH ?_
    case refine_2 => intro w hSw; clear hSw; go_simp; try with_reducible rfl
    simp only [List.setIfInBounds_toArray, List.set_cons_zero, List.set_cons_succ]
    refine takeH 5 55 rfl (by kernel_rfl) (by kernel_rfl) (by kernel_rfl) (v := ?_) (fun _ _ _ h => h) rfl (by rfl) ?_ hH ?_
    case refine_2 => intro w hSw; clear hSw; go_simp; try with_reducible rfl
    simp only [List.setIfInBounds_toArray, List.set_cons_zero, List.set_cons_succ]
    refine takeH 6 56 rfl (by kernel_rfl) (by kernel_rfl) (by kernel_rfl) (v := ?_) (fun _ _ _ h => h) rfl (by rfl) ?_ hH ?_
    case refine_2 => intro w hSw; clear hSw; go_simp; try with_reducible rfl
    simp only [List.setIfInBounds_toArray, List.set_cons_zero, List.set_cons_succ]
    refine takeH 7 57 rfl (by kernel_rfl) (by kernel_rfl) (by kernel_rfl) (v := ?_) (fun _ _ _ h => h) rfl (by rfl) ?_ hH ?_
    case refine_2 => intro w hSw; clear hSw; go_simp; try with_reducible rfl
    simp only [List.setIfInBounds_toArray, List.set_cons_zero, List.set_cons_succ]
    refine takeH 8 58 rfl (by kernel_rfl) (by kernel_rfl) (by kernel_rfl) (v := ?_) (fun _ _ _ h => h) rfl (by rfl) ?_ hH ?_
    case refine_2 => intro w hSw; have x7 : w.cell? ⟨sb, 6, none⟩ = some (.string s.op) := (hSw.2.2 6).trans rfl; clear hSw; go_simp; try with_reducible rfl
    simp only [List.setIfInBounds_toArray, List.set_cons_zero, List.set_cons_succ]
    clear hH
    refine stepH2 9 59 (by kernel_rfl) rfl rfl rfl _ _ _ rfl Tryz.func79 rfl rfl _ _ rfl rfl (mText HM4.out.drew s.op HZ.out.op (by omega)) ?_
    rintro e w3 ⟨rfl, h3⟩
    have H3 := Lib.hid h3
    clear h3
    refine ⟨H3.out.ws, fun hH => ?_⟩
    simp only [List.setIfInBounds_toArray, List.set_cons_zero, List.set_cons_succ]
    clear hH
    refine stepH2 10 60 (by kernel_rfl) rfl rfl rfl _ _ _ rfl Tryz.func35 rfl rfl _ _ rfl rfl (mTextN H3.out (by omega) (HM4.out.idxT s.op (by omega))) ?_
    rintro e w4 ⟨rfl, h4⟩
    have H4 := Lib.hid h4
    clear h4
    refine ⟨H4.out.ws, fun hH => ?_⟩
    simp only [List.setIfInBounds_toArray, List.set_cons_zero, List.set_cons_succ]
    refine wpAnyH_done (by kernel_rfl) ?_ _
    go_wp2_with fail
    go_meet
    exact H4.out
  case rest =>
  obtain ⟨W5, rfl⟩ : ∃ V : World, V = wc := ⟨_, rfl⟩
  obtain ⟨b5, hb5⟩ : ∃ x, x = b4.text s.op := ⟨_, rfl⟩
  rw [← hb5] at hcut
  have HB5 := Lib.hid hb5
  clear hb5
  have HM5 := Lib.hid hcut
  clear hcut
  clear HM4
  go_upto_region 6 with fail
  go_cut [] (fun wx => WMid wb g mt mr w0 (b5.put [s.kind + 8 * s.st]) (N + 50) w sb (s.cells lv av ev) 76 wx)
  case first =>
   as_aux_lemma =>
    have hw1 : IntKind.i64.wrap (8 * s.st) = 8 * s.st := by rw [IntKind.wrap_i64]; omega
    have hw2 : IntKind.i64.wrap (s.kind + 8 * s.st) = s.kind + 8 * s.st := by rw [IntKind.wrap_i64]; omega
    have hw3 : IntKind.u8.wrap (s.kind + 8 * s.st) = s.kind + 8 * s.st := by rw [IntKind.wrap_u8]; omega
    refine wp_region_held_drew (S := WS wb g (b5).st sb (s.cells lv av ev)) (by kernel_rfl) HM5.out.drew.ws (fun hH => ?_)
    refine takeH 0 61 rfl (by kernel_rfl) (by kernel_rfl) (by kernel_rfl) (v := ?_) (fun _ _ _ h => h) rfl (by rfl) ?_ hH ?_
    case refine_2 => intro w hSw; clear hSw; go_simp; try with_reducible rfl
    simp only [List.setIfInBounds_toArray, List.set_cons_zero, List.set_cons_succ]
    refine takeH 1 62 rfl (by kernel_rfl) (by kernel_rfl) (by kernel_rfl) (v := ?_) (fun _ _ _ h => h) rfl (by rfl) ?_ hH ?_
    case refine_2 => intro w hSw; clear hSw; go_simp; try with_reducible rfl
    simp only [List.setIfInBounds_toArray, List.set_cons_zero, List.set_cons_succ]
    refine takeH 2 63 rfl (by kernel_rfl) (by kernel_rfl) (by kernel_rfl) (v := ?_) (fun _ _ _ h => h) rfl (by rfl) ?_ hH ?_
    case refine_2 => intro w hSw; clear hSw; go_simp; try with_reducible rfl
    simp only [List.setIfInBounds_toArray, List.set_cons_zero, List.set_cons_succ]
    refine takeH 3 64 rfl (by kernel_rfl) (by kernel_rfl) (by kernel_rfl) (v := ?_) (fun _ _ _ h => h) rfl (by rfl) ?_ hH ?_
    case refine_2 => intro w hSw; have x0 := hSw.1; clear hSw; go_simp; try with_reducible rfl
    simp only [List.setIfInBounds_toArray, List.set_cons_zero, List.set_cons_succ]
    refine takeH 4 65 rfl (by kernel_rfl) (by kernel_rfl) (by kernel_rfl) (v := ?_) (fun _ _ _ h => h) rfl (by rfl) ?_ hH ?_
    case refine_2 => intro w hSw; clear hSw; go_simp; try with_reducible rfl
    simp only [List.setIfInBounds_toArray, List.set_cons_zero, List.set_cons_succ]
    refine takeH 5 66 rfl (by kernel_rfl) (by kernel_rfl) (by kernel_rfl) (v := ?_) (fun _ _ _ h => h) rfl (by rfl) ?_ hH ?_
    case refine_2 => intro w hSw; have x8 : w.cell? ⟨sb, 7, none⟩ = some (.int .i64 s.kind) := (hSw.2.2 7).trans rfl; clear hSw; go_simp; try with_reducible rfl
    simp only [List.setIfInBounds_toArray, List.set_cons_zero, List.set_cons_succ]
    refine takeH 6 67 rfl (by kernel_rfl) (by kernel_rfl) (by kernel_rfl) (v := ?_) (fun _ _ _ h => h) rfl (by rfl) ?_ hH ?_
    case refine_2 => intro w hSw; clear hSw; go_simp; try with_reducible rfl
    simp only [List.setIfInBounds_toArray, List.set_cons_zero, List.set_cons_succ]
    refine takeH 7 68 rfl (by kernel_rfl) (by kernel_rfl) (by kernel_rfl) (v := ?_) (fun _ _ _ h => h) rfl (by rfl) ?_ hH ?_
    case refine_2 => intro w hSw; have x9 : w.cell? ⟨sb, 8, none⟩ = some (.int .i64 s.st) := (hSw.2.2 8).trans rfl; clear hSw; go_simp; try with_reducible rfl
    simp only [List.setIfInBounds_toArray, List.set_cons_zero, List.set_cons_succ]
    refine takeH 8 69 rfl (by kernel_rfl) (by kernel_rfl) (by kernel_rfl) (v := ?_) (fun _ _ _ h => h) rfl (by rfl) ?_ hH ?_
    case refine_2 => intro w hSw; clear hSw; go_simp; try with_reducible rfl
    simp only [List.setIfInBounds_toArray, List.set_cons_zero, List.set_cons_succ]
    refine takeH 9 70 rfl (by kernel_rfl) (by kernel_rfl) (by kernel_rfl) (v := ?_) (fun _ _ _ h => h) rfl (by rfl) ?_ hH ?_
    case refine_2 => intro w hSw; clear hSw; go_simp; try with_reducible rfl
    simp only [List.setIfInBounds_toArray, List.set_cons_zero, List.set_cons_succ]
    refine takeH 10 71 rfl (by kernel_rfl) (by kernel_rfl) (by kernel_rfl) (v := ?_) (fun _ _ _ h => h) rfl (by rfl) ?_ hH ?_
    case refine_2 => intro w hSw; clear hSw; go_simp; try with_reducible rfl
    simp only [List.setIfInBounds_toArray, List.set_cons_zero, List.set_cons_succ]
    clear hH
    refine wpAnyH_ready (rs := [11]) (by kernel_rfl) (by simp) ?_
    refine AllReadyH.cons rfl (fun K hK => ?_) AllReadyH.nil
    go_simp
    refine hK.out _ _ (HM5.out.alloc _).drew.ws (fun hH => ?_)
    clear hK K
    clear hH
    refine stepH2 12 73 (by kernel_rfl) rfl rfl rfl _ _ _ rfl Tryz.func34 rfl rfl _ _ rfl rfl (mByte0 HM5.out (s.kind + 8 * s.st) (by omega)) ?_
    rintro e w3 ⟨rfl, h3⟩
    have H3 := Lib.hid h3
    clear h3
    refine ⟨H3.out.ws, fun hH => ?_⟩
    simp only [List.setIfInBounds_toArray, List.set_cons_zero, List.set_cons_succ]
    refine wpAnyH_done (by kernel_rfl) ?_ _
    go_wp2_with fail
    go_meet
    exact H3.out
  case rest =>
  obtain ⟨W6, rfl⟩ : ∃ V : World, V = wc := ⟨_, rfl⟩
  obtain ⟨b6, hb6⟩ : ∃ x, x = b5.put [s.kind + 8 * s.st] := ⟨_, rfl⟩
  rw [← hb6] at hcut
  have HB6 := Lib.hid hb6
  clear hb6
  have HM6 := Lib.hid hcut
  clear hcut
  clear HM5
  have e5 : b6.st = st0 := by rw [HST.out, HB6.out, HB5.out, HB4.out, HB3.out, HB2.out, HB1.out]; rfl
  have HE5 := Lib.hid e5
  clear e5
  go_upto_region 7 with fail
  go_cut [] (fun wx => WMid wb g mt mr w0 (b6.put (venc (zig (s.start - st0)).toNat)) (N + 60) w sb (s.cells lv av ev) 76 wx)
  case first =>
   as_aux_lemma =>
    have hw4 : IntKind.i64.wrap (s.start - st0) = s.start - st0 := by rw [IntKind.wrap_i64]; omega
    refine wp_region_held_drew (S := WS wb g (b6).st sb (s.cells lv av ev)) (by kernel_rfl) HM6.out.drew.ws (fun hH => ?_)
    refine takeH 0 74 rfl (by kernel_rfl) (by kernel_rfl) (by kernel_rfl) (v := ?_) (fun _ _ _ h => h) rfl (by rfl) ?_ hH ?_
    case refine_2 => intro w hSw; clear hSw; go_simp; try with_reducible rfl
    simp only [List.setIfInBounds_toArray, List.set_cons_zero, List.set_cons_succ]
    refine takeH 1 75 rfl (by kernel_rfl) (by kernel_rfl) (by kernel_rfl) (v := ?_) (fun _ _ _ h => h) rfl (by rfl) ?_ hH ?_
    case refine_2 => intro w hSw; clear hSw; go_simp; try with_reducible rfl
    simp only [List.setIfInBounds_toArray, List.set_cons_zero, List.set_cons_succ]
    refine takeH 2 76 rfl (by kernel_rfl) (by kernel_rfl) (by kernel_rfl) (v := ?_) (fun _ _ _ h => h) rfl (by rfl) ?_ hH ?_
    case refine_2 => intro w hSw; clear hSw; go_simp; try with_reducible rfl
    simp only [List.setIfInBounds_toArray, List.set_cons_zero, List.set_cons_succ]
    refine takeH 3 77 rfl (by kernel_rfl) (by kernel_rfl) (by kernel_rfl) (v := ?_) (fun _ _ _ h => h) rfl (by rfl) ?_ hH ?_
    case refine_2 => intro w hSw; have x0 := hSw.1; clear hSw; go_simp; try with_reducible rfl
    simp only [List.setIfInBounds_toArray, List.set_cons_zero, List.set_cons_succ]
    refine takeH 4 78 rfl (by kernel_rfl) (by kernel_rfl) (by kernel_rfl) (v := ?_) (fun _ _ _ h => h) rfl (by rfl) ?_ hH ?_
    case refine_2 => intro w hSw; clear hSw; go_simp; try with_reducible rfl
    simp only [List.setIfInBounds_toArray, List.set_cons_zero, List.set_cons_succ]
    refine takeH 5 79 rfl (by kernel_rfl) (by kernel_rfl) (by kernel_rfl) (v := ?_) (fun _ _ _ h => h) rfl (by rfl) ?_ hH ?_
    case refine_2 => intro w hSw; have x10 : w.cell? ⟨sb, 9, none⟩ = some (.int .i64 s.start) := (hSw.2.2 9).trans rfl; clear hSw; go_simp; try with_reducible rfl
    simp only [List.setIfInBounds_toArray, List.set_cons_zero, List.set_cons_succ]
    refine takeH 6 80 rfl (by kernel_rfl) (by kernel_rfl) (by kernel_rfl) (v := ?_) (fun _ _ _ h => h) rfl (by rfl) ?_ hH ?_
    case refine_2 => intro w hSw; clear hSw; go_simp; try with_reducible rfl
    simp only [List.setIfInBounds_toArray, List.set_cons_zero, List.set_cons_succ]
    refine takeH 7 81 rfl (by kernel_rfl) (by kernel_rfl) (by kernel_rfl) (v := ?_) (fun _ _ _ h => h) rfl (by rfl) ?_ hH ?_
    case refine_2 => intro w hSw; clear hSw; go_simp; try with_reducible rfl
    simp only [List.setIfInBounds_toArray, List.set_cons_zero, List.set_cons_succ]
    refine takeH 8 82 rfl (by kernel_rfl) (by kernel_rfl) (by kernel_rfl) (v := ?_) (fun _ _ _ h => h) rfl (by rfl) ?_ hH ?_
    case refine_2 => intro w hSw; clear hSw; go_simp; try with_reducible rfl
    simp only [List.setIfInBounds_toArray, List.set_cons_zero, List.set_cons_succ]
    refine takeH 9 83 rfl (by kernel_rfl) (by kernel_rfl) (by kernel_rfl) (v := ?_) (fun _ _ _ h => h) rfl (by rfl) ?_ hH ?_
    case refine_2 => intro w hSw; have x0 := hSw.2.1; rw [HE5.out] at x0; clear hSw; go_simp; try with_reducible rfl
    simp only [List.setIfInBounds_toArray, List.set_cons_zero, List.set_cons_succ]
    refine takeH 10 84 rfl (by kernel_rfl) (by kernel_rfl) (by kernel_rfl) (v := ?_) (fun _ _ _ h => h) rfl (by rfl) ?_ hH ?_
    case refine_2 => intro w hSw; clear hSw; go_simp; try with_reducible rfl
    simp only [List.setIfInBounds_toArray, List.set_cons_zero, List.set_cons_succ]
    clear hH
    refine stepH2 11 85 (by kernel_rfl) rfl rfl rfl _ _ _ rfl Tryz.func80 rfl rfl _ _ rfl rfl (mInt HM6.out.drew (s.start - st0) (by omega) (by omega) (by omega)) ?_
    rintro e w3 ⟨rfl, h3⟩
    have H3 := Lib.hid h3
    clear h3
    refine ⟨H3.out.ws, fun hH => ?_⟩
    simp only [List.setIfInBounds_toArray, List.set_cons_zero, List.set_cons_succ]
    refine wpAnyH_done (by kernel_rfl) ?_ _
    go_wp2_with fail
    go_meet
    exact H3.out
  case rest =>
  obtain ⟨W7, rfl⟩ : ∃ V : World, V = wc := ⟨_, rfl⟩
  obtain ⟨b7, hb7⟩ : ∃ x, x = b6.put (venc (zig (s.start - st0)).toNat) := ⟨_, rfl⟩
  rw [← hb7] at hcut
  have HB7 := Lib.hid hb7
  clear hb7
  have HM7 := Lib.hid hcut
  clear hcut
  clear HM6 HE5
  have z5 := HM7.out.at_.frozen 5
  have c5 := HM7.out.at_.c5
  have d9 : W7.cell? ⟨sb, 9, none⟩ = some (.int .i64 s.start) := (HM7.out.cq 9).trans rfl
  go_upto_region 9 with fail
  have hs8 := HM7.out.start s.start
  obtain ⟨W8, hW8⟩ : ∃ V, V = W7.setCell ⟨wb, 5, none⟩ (.int .i64 s.start) := ⟨_, rfl⟩
  rw [← hW8] at hs8 ⊢
  clear hW8 z5 c5 d9 HM7
  obtain ⟨W8, rfl⟩ : ∃ V : World, V = W8 := ⟨_, rfl⟩
  obtain ⟨b8, hb8⟩ : ∃ x, x = b7.at_ s.start := ⟨_, rfl⟩
  rw [← hb8] at hs8
  have HB8 := Lib.hid hb8
  clear hb8
  have HM8 := Lib.hid hs8
  clear hs8
  go_cut [] (fun wx => WMid wb g mt mr w0 (b8.put (venc (s.fin - s.start).toNat)) (N + 70) w sb (s.cells lv av ev) 76 wx)
  case first =>
   as_aux_lemma =>
    have hw5 : IntKind.i64.wrap (s.fin - s.start) = s.fin - s.start := by rw [IntKind.wrap_i64]; omega
    have hw6 : IntKind.u64.wrap (s.fin - s.start) = s.fin - s.start := by rw [IntKind.wrap_u64]; omega
    refine wp_region_held_drew (S := WS wb g (b8).st sb (s.cells lv av ev)) (by kernel_rfl) HM8.out.drew.ws (fun hH => ?_)
    refine takeH 0 91 rfl (by kernel_rfl) (by kernel_rfl) (by kernel_rfl) (v := ?_) (fun _ _ _ h => h) rfl (by rfl) ?_ hH ?_
    case refine_2 => intro w hSw; clear hSw; go_simp; try with_reducible rfl
    simp only [List.setIfInBounds_toArray, List.set_cons_zero, List.set_cons_succ]
    refine takeH 1 92 rfl (by kernel_rfl) (by kernel_rfl) (by kernel_rfl) (v := ?_) (fun _ _ _ h => h) rfl (by rfl) ?_ hH ?_
    case refine_2 => intro w hSw; clear hSw; go_simp; try with_reducible rfl
    simp only [List.setIfInBounds_toArray, List.set_cons_zero, List.set_cons_succ]
    refine takeH 2 93 rfl (by kernel_rfl) (by kernel_rfl) (by kernel_rfl) (v := ?_) (fun _ _ _ h => h) rfl (by rfl) ?_ hH ?_
    case refine_2 => intro w hSw; clear hSw; go_simp; try with_reducible rfl
    simp only [List.setIfInBounds_toArray, List.set_cons_zero, List.set_cons_succ]
    refine takeH 3 94 rfl (by kernel_rfl) (by kernel_rfl) (by kernel_rfl) (v := ?_) (fun _ _ _ h => h) rfl (by rfl) ?_ hH ?_
    case refine_2 => intro w hSw; have x0 := hSw.1; clear hSw; go_simp; try with_reducible rfl
    simp only [List.setIfInBounds_toArray, List.set_cons_zero, List.set_cons_succ]
    refine takeH 4 95 rfl (by kernel_rfl) (by kernel_rfl) (by kernel_rfl) (v := ?_) (fun _ _ _ h => h) rfl (by rfl) ?_ hH ?_
    case refine_2 => intro w hSw; clear hSw; go_simp; try with_reducible rfl
    simp only [List.setIfInBounds_toArray, List.set_cons_zero, List.set_cons_succ]
    refine takeH 5 96 rfl (by kernel_rfl) (by kernel_rfl) (by kernel_rfl) (v := ?_) (fun _ _ _ h => h) rfl (by rfl) ?_ hH ?_
    case refine_2 => intro w hSw; have x11 : w.cell? ⟨sb, 10, none⟩ = some (.int .i64 s.fin) := (hSw.2.2 10).trans rfl; clear hSw; go_simp; try with_reducible rfl
    simp only [List.setIfInBounds_toArray, List.set_cons_zero, List.set_cons_succ]
    refine takeH 6 97 rfl (by kernel_rfl) (by kernel_rfl) (by kernel_rfl) (v := ?_) (fun _ _ _ h => h) rfl (by rfl) ?_ hH ?_
    case refine_2 => intro w hSw; clear hSw; go_simp; try with_reducible rfl
    simp only [List.setIfInBounds_toArray, List.set_cons_zero, List.set_cons_succ]
    refine takeH 7 98 rfl (by kernel_rfl) (by kernel_rfl) (by kernel_rfl) (v := ?_) (fun _ _ _ h => h) rfl (by rfl) ?_ hH ?_
    case refine_2 => intro w hSw; have x10 : w.cell? ⟨sb, 9, none⟩ = some (.int .i64 s.start) := (hSw.2.2 9).trans rfl; clear hSw; go_simp; try with_reducible rfl
    simp only [List.setIfInBounds_toArray, List.set_cons_zero, List.set_cons_succ]
    refine takeH 8 99 rfl (by kernel_rfl) (by kernel_rfl) (by kernel_rfl) (v := ?_) (fun _ _ _ h => h) rfl (by rfl) ?_ hH ?_
    case refine_2 => intro w hSw; clear hSw; go_simp; try with_reducible rfl
    simp only [List.setIfInBounds_toArray, List.set_cons_zero, List.set_cons_succ]
    refine takeH 9 100 rfl (by kernel_rfl) (by kernel_rfl) (by kernel_rfl) (v := ?_) (fun _ _ _ h => h) rfl (by rfl) ?_ hH ?_
    case refine_2 => intro w hSw; clear hSw; go_simp; try with_reducible rfl
    simp only [List.setIfInBounds_toArray, List.set_cons_zero, List.set_cons_succ]
    clear hH
    refine stepH2 10 101 (by kernel_rfl) rfl rfl rfl _ _ _ rfl Tryz.func35 rfl rfl _ _ rfl rfl (mUintI HM8.out.drew (s.fin - s.start) (by omega) (by omega) (by omega)) ?_
    rintro e w3 ⟨rfl, h3⟩
    have H3 := Lib.hid h3
    clear h3
    refine ⟨H3.out.ws, fun hH => ?_⟩
    simp only [List.setIfInBounds_toArray, List.set_cons_zero, List.set_cons_succ]
    refine wpAnyH_done (by kernel_rfl) ?_ _
    go_wp2_with fail
    go_meet
    exact H3.out
  case rest =>
  obtain ⟨W9, rfl⟩ : ∃ V : World, V = wc := ⟨_, rfl⟩
  obtain ⟨b9, hb9⟩ : ∃ x, x = b8.put (venc (s.fin - s.start).toNat) := ⟨_, rfl⟩
  rw [← hb9] at hcut
  have HB9 := Lib.hid hb9
  clear hb9
  have HM9 := Lib.hid hcut
  clear hcut
  clear HM8
  go_upto_region 10 with fail
  go_cut [] (fun wx => WMid wb g mt mr w0 (b9.put (venc s.links.length)) (N + 80) w sb (s.cells lv av ev) 76 wx)
  case first =>
   as_aux_lemma =>
    have hw7 : IntKind.u64.wrap ((s.links.length : Int)) = (s.links.length : Int) := by rw [IntKind.wrap_u64]; omega
    refine wp_region_held_drew (S := WS wb g (b9).st sb (s.cells lv av ev)) (by kernel_rfl) HM9.out.drew.ws (fun hH => ?_)
    refine takeH 0 102 rfl (by kernel_rfl) (by kernel_rfl) (by kernel_rfl) (v := ?_) (fun _ _ _ h => h) rfl (by rfl) ?_ hH ?_
    case refine_2 => intro w hSw; clear hSw; go_simp; try with_reducible rfl
    simp only [List.setIfInBounds_toArray, List.set_cons_zero, List.set_cons_succ]
    refine takeH 1 103 rfl (by kernel_rfl) (by kernel_rfl) (by kernel_rfl) (v := ?_) (fun _ _ _ h => h) rfl (by rfl) ?_ hH ?_
    case refine_2 => intro w hSw; clear hSw; go_simp; try with_reducible rfl
    simp only [List.setIfInBounds_toArray, List.set_cons_zero, List.set_cons_succ]
    refine takeH 2 104 rfl (by kernel_rfl) (by kernel_rfl) (by kernel_rfl) (v := ?_) (fun _ _ _ h => h) rfl (by rfl) ?_ hH ?_
    case refine_2 => intro w hSw; clear hSw; go_simp; try with_reducible rfl
    simp only [List.setIfInBounds_toArray, List.set_cons_zero, List.set_cons_succ]
    refine takeH 3 105 rfl (by kernel_rfl) (by kernel_rfl) (by kernel_rfl) (v := ?_) (fun _ _ _ h => h) rfl (by rfl) ?_ hH ?_
    case refine_2 => intro w hSw; have x0 := hSw.1; clear hSw; go_simp; try with_reducible rfl
    simp only [List.setIfInBounds_toArray, List.set_cons_zero, List.set_cons_succ]
    refine takeH 4 106 rfl (by kernel_rfl) (by kernel_rfl) (by kernel_rfl) (v := ?_) (fun _ _ _ h => h) rfl (by rfl) ?_ hH ?_
    case refine_2 => intro w hSw; clear hSw; go_simp; try with_reducible rfl
    simp only [List.setIfInBounds_toArray, List.set_cons_zero, List.set_cons_succ]
    refine takeH 5 107 rfl (by kernel_rfl) (by kernel_rfl) (by kernel_rfl) (v := ?_) (fun _ _ _ h => h) rfl (by rfl) ?_ hH ?_
    case refine_2 => intro w hSw; have x5 : w.cell? ⟨sb, 4, none⟩ = some (.slice slA s.links.length slc) := (hSw.2.2 4).trans (by rw [← HV.out.1]; rfl); clear hSw; go_simp; try with_reducible rfl
    simp only [List.setIfInBounds_toArray, List.set_cons_zero, List.set_cons_succ]
    refine takeH 6 108 rfl (by kernel_rfl) (by kernel_rfl) (by kernel_rfl) (v := ?_) (fun _ _ _ h => h) rfl (by rfl) ?_ hH ?_
    case refine_2 => intro w hSw; clear hSw; go_simp; try with_reducible rfl
    simp only [List.setIfInBounds_toArray, List.set_cons_zero, List.set_cons_succ]
    refine takeH 7 109 rfl (by kernel_rfl) (by kernel_rfl) (by kernel_rfl) (v := ?_) (fun _ _ _ h => h) rfl (by rfl) ?_ hH ?_
    case refine_2 => intro w hSw; clear hSw; go_simp; try with_reducible rfl
    simp only [List.setIfInBounds_toArray, List.set_cons_zero, List.set_cons_succ]
    clear hH
    refine stepH2 8 110 (by kernel_rfl) rfl rfl rfl _ _ _ rfl Tryz.func35 rfl rfl _ _ rfl rfl (mUint HM9.out.drew s.links.length (by omega) (by omega)) ?_
    rintro e w3 ⟨rfl, h3⟩
    have H3 := Lib.hid h3
    clear h3
    refine ⟨H3.out.ws, fun hH => ?_⟩
    simp only [List.setIfInBounds_toArray, List.set_cons_zero, List.set_cons_succ]
    refine wpAnyH_done (by kernel_rfl) ?_ _
    go_wp2_with fail
    go_meet
    exact H3.out
  case rest =>
  obtain ⟨W10, rfl⟩ : ∃ V : World, V = wc := ⟨_, rfl⟩
  obtain ⟨b10, hb10⟩ : ∃ x, x = b9.put (venc s.links.length) := ⟨_, rfl⟩
  rw [← hb10] at hcut
  have HB10 := Lib.hid hb10
  clear hb10
  have HM10 := Lib.hid hcut
  clear hcut
  clear HM9
  have d4 : W10.cell? ⟨sb, 4, none⟩ = some (.slice slA s.links.length slc) := (HM10.out.cq 4).trans (by rw [← HV.out.1]; rfl)
  go_wp2_with fail
  go_loopw [4, 114] (fun a i wr => ∃ k : Nat, i = .int .i64 k ∧ k ≤ s.links.length ∧ a = .int .u64 (lastL (s.links.take k)) ∧ WMid wb g mt mr w0 (b10.put (linkB 0 (s.links.take k))) (N + 80 + 10 * k) w sb (s.cells lv av ev) 76 wr) (fun _ i _ => s.links.length - (intOf i).toNat)
  case atStart => exact ⟨0, rfl, Nat.zero_le _, rfl, by rw [List.take_zero, linkB, put_nil]; exact HM10.out⟩
  obtain ⟨k, rfl, hk, rfl, hm⟩ := hrel
  clear d4
  have k0 : (0 : Int) ≤ k := by omega
  by_cases hk4 : k < s.links.length
  · as_aux_lemma =>
    obtain ⟨x, hx⟩ : ∃ x, s.links[k]? = some x := ⟨_, List.getElem?_eq_getElem hk4⟩
    obtain ⟨hle, hlt⟩ := each_at HRW.out.links hx
    have k1 : (k : Int) < s.links.length := by omega
    obtain ⟨A, c, hA, hca⟩ := HS.out.links.kept hm.at_.kept
    rw [HV.out.1] at hA
    injection hA with eA _ ec
    clear ec
    subst eA
    obtain ⟨lb, lo, eA, hcell⟩ := hca (by omega)
    subst eA
    have q1 := hcell k x hx
    have c0 := hm.c0
    have HM' := Lib.hid hm
    have HX := Lib.hid hx
    obtain ⟨p, hp⟩ : ∃ p, p = lastL (s.links.take k) := ⟨_, rfl⟩
    rw [← hp] at hle ⊢
    have HP := Lib.hid hp
    have q2 : (0 : Int) ≤ (x : Int) - p := by omega
    have q3 : (x : Int) - p < 18446744073709551616 := by omega
    have q4 : IntKind.u64.wrap ((x : Int) - p) = (x : Int) - p := by rw [IntKind.wrap_u64]; omega
    have HL := Lib.hid hle
    clear hm hca hcell hk4 hx hp hle hlt
    go_upto_region 16 with (go_at_call 35; (with_reducible refine (mUintI HM'.out ((x : Int) - p) q2 q3 (by omega)).mono ?_); rintro e w3 ⟨rfl, h3⟩; have H3 := Lib.hid h3; clear h3)
    go_wp2_with fail
    have e1 : s.links.take (k + 1) = s.links.take k ++ [x] := take_snoc HX.out
    refine ⟨⟨k + 1, by congr 1, by omega, by rw [e1, lastL_snoc], ?_⟩, by simp [intOf]; omega⟩
    rw [e1, linkB_snoc, ← put_put]
    have e2 : ((x : Int) - p).toNat = x - (s.links.take k).getLast?.getD 0 := by have := HP.out; have := HL.out; unfold lastL at *; omega
    rw [← e2]
    exact H3.out
  have hk4' : k = s.links.length := by omega
  have k1 : ¬ (k : Int) < s.links.length := by omega
  rw [hk4', List.take_length] at hm
  have e10 : N + 80 + 10 * s.links.length ≤ N + 240 := by omega
  have hm : WMid wb g mt mr w0 (b10.put (linkB 0 s.links)) (N + 240) w sb (s.cells lv av ev) 76 wr := ⟨hm.at_.mono e10, hm.ap, hm.blk, hm.ne⟩
  obtain ⟨pl, hpl⟩ : ∃ z, z = lastL (s.links.take k) := ⟨_, rfl⟩
  rw [← hpl]
  clear hpl e10
  go_upto_region 18 with fail
  clear hk4' hk4 hk k0 k1
  obtain ⟨W11, rfl⟩ : ∃ V : World, V = wr := ⟨_, rfl⟩
  obtain ⟨b11, hb11⟩ : ∃ x, x = b10.put (linkB 0 s.links) := ⟨_, rfl⟩
  rw [← hb11] at hm
  have HB11 := Lib.hid hb11
  clear hb11
  have HM11 := Lib.hid hm
  clear hm
  clear HM10
  go_cut [] (fun wx => WMid wb g mt mr w0 (b11.put (venc s.ats.length)) (N + 250) w sb (s.cells lv av ev) 76 wx)
  case first =>
   as_aux_lemma =>
    have hw8 : IntKind.u64.wrap ((s.ats.length : Int)) = (s.ats.length : Int) := by rw [IntKind.wrap_u64]; omega
    refine wp_region_held_drew (S := WS wb g (b11).st sb (s.cells lv av ev)) (by kernel_rfl) HM11.out.drew.ws (fun hH => ?_)
    refine takeH 0 128 rfl (by kernel_rfl) (by kernel_rfl) (by kernel_rfl) (v := ?_) (fun _ _ _ h => h) rfl (by rfl) ?_ hH ?_
    case refine_2 => intro w hSw; clear hSw; go_simp; try with_reducible rfl
    simp only [List.setIfInBounds_toArray, List.set_cons_zero, List.set_cons_succ]
    refine takeH 1 129 rfl (by kernel_rfl) (by kernel_rfl) (by kernel_rfl) (v := ?_) (fun _ _ _ h => h) rfl (by rfl) ?_ hH ?_
    case refine_2 => intro w hSw; clear hSw; go_simp; try with_reducible rfl
    simp only [List.setIfInBounds_toArray, List.set_cons_zero, List.set_cons_succ]
    refine takeH 2 130 rfl (by kernel_rfl) (by kernel_rfl) (by kernel_rfl) (v := ?_) (fun _ _ _ h => h) rfl (by rfl) ?_ hH ?_
    case refine_2 => intro w hSw; clear hSw; go_simp; try with_reducible rfl
    simp only [List.setIfInBounds_toArray, List.set_cons_zero, List.set_cons_succ]
    refine takeH 3 131 rfl (by kernel_rfl) (by kernel_rfl) (by kernel_rfl) (v := ?_) (fun _ _ _ h => h) rfl (by rfl) ?_ hH ?_
    case refine_2 => intro w hSw; have x0 := hSw.1; clear hSw; go_simp; try with_reducible rfl
    simp only [List.setIfInBounds_toArray, List.set_cons_zero, List.set_cons_succ]
    refine takeH 4 132 rfl (by kernel_rfl) (by kernel_rfl) (by kernel_rfl) (v := ?_) (fun _ _ _ h => h) rfl (by rfl) ?_ hH ?_
    case refine_2 => intro w hSw; clear hSw; go_simp; try with_reducible rfl
    simp only [List.setIfInBounds_toArray, List.set_cons_zero, List.set_cons_succ]
    refine takeH 5 133 rfl (by kernel_rfl) (by kernel_rfl) (by kernel_rfl) (v := ?_) (fun _ _ _ h => h) rfl (by rfl) ?_ hH ?_
    case refine_2 => intro w hSw; have x12 : w.cell? ⟨sb, 11, none⟩ = some (.slice saA s.ats.length sac) := (hSw.2.2 11).trans (by rw [← HV.out.2.1]; rfl); clear hSw; go_simp; try with_reducible rfl
    simp only [List.setIfInBounds_toArray, List.set_cons_zero, List.set_cons_succ]
    refine takeH 6 134 rfl (by kernel_rfl) (by kernel_rfl) (by kernel_rfl) (v := ?_) (fun _ _ _ h => h) rfl (by rfl) ?_ hH ?_
    case refine_2 => intro w hSw; clear hSw; go_simp; try with_reducible rfl
    simp only [List.setIfInBounds_toArray, List.set_cons_zero, List.set_cons_succ]
    refine takeH 7 135 rfl (by kernel_rfl) (by kernel_rfl) (by kernel_rfl) (v := ?_) (fun _ _ _ h => h) rfl (by rfl) ?_ hH ?_
    case refine_2 => intro w hSw; clear hSw; go_simp; try with_reducible rfl
    simp only [List.setIfInBounds_toArray, List.set_cons_zero, List.set_cons_succ]
    clear hH
    refine stepH2 8 136 (by kernel_rfl) rfl rfl rfl _ _ _ rfl Tryz.func35 rfl rfl _ _ rfl rfl (mUint HM11.out.drew s.ats.length (by omega) (by omega)) ?_
    rintro e w3 ⟨rfl, h3⟩
    have H3 := Lib.hid h3
    clear h3
    refine ⟨H3.out.ws, fun hH => ?_⟩
    simp only [List.setIfInBounds_toArray, List.set_cons_zero, List.set_cons_succ]
    refine wpAnyH_done (by kernel_rfl) ?_ _
    go_wp2_with fail
    go_meet
    exact H3.out
  case rest =>
  obtain ⟨W12, rfl⟩ : ∃ V : World, V = wc := ⟨_, rfl⟩
  obtain ⟨b12, hb12⟩ : ∃ x, x = b11.put (venc s.ats.length) := ⟨_, rfl⟩
  rw [← hb12] at hcut
  have HB12 := Lib.hid hb12
  clear hb12
  have HM12 := Lib.hid hcut
  clear hcut
  clear HM11
  have d11 : W12.cell? ⟨sb, 11, none⟩ = some (.slice saA s.ats.length sac) := (HM12.out.cq 11).trans (by rw [← HV.out.2.1]; rfl)
  go_wp2_with fail
  go_loopw [140] (fun i wr => ∃ k : Nat, i = .int .i64 k ∧ k ≤ s.ats.length ∧ WMid wb g mt mr w0 ((s.ats.take k).foldl BW.attr b12) (N + 250 + 23 * k) w sb (s.cells lv av ev) 76 wr) (fun i _ => s.ats.length - (intOf i).toNat)
  case atStart => exact ⟨0, rfl, Nat.zero_le _, by rw [List.take_zero, List.foldl_nil]; exact HM12.out⟩
  obtain ⟨k, rfl, hk, hm⟩ := hrel
  clear d11
  have k0 : (0 : Int) ≤ k := by omega
  by_cases hk4 : k < s.ats.length
  · as_aux_lemma =>
    obtain ⟨x, hx⟩ : ∃ x, s.ats[k]? = some x := ⟨_, List.getElem?_eq_getElem hk4⟩
    have hmem := List.mem_of_getElem? hx
    have hok := atrOk_of (HF.out.ats.2 x hmem) (HR.out.ats x hmem).2 (HZ.out.ats x hmem).1 (HZ.out.ats x hmem).2
    have k1 : (k : Int) < s.ats.length := by omega
    obtain ⟨A, c, hA, hca⟩ := HS.out.ats.kept hm.at_.kept
    rw [HV.out.2.1] at hA
    injection hA with eA _ ec
    clear ec
    subst eA
    obtain ⟨ab, ao, eA, hcell⟩ := hca (by omega)
    subst eA
    have q1 := range4 (hcell k x hx)
    have HM' := Lib.hid hm
    have HX := Lib.hid hx
    have HO := Lib.hid hok
    clear hm hca hcell hk4 hx hmem hok
    go_wp2_with (first
      | (refine wpList_atr rfl _ rfl ab (ao + k * 4) x rfl q1 ?_)
      | (refine wpList_atr_new rfl _ _ rfl x _ rfl rfl rfl ?_; intro w1 hb1 hk1; have H1 := Lib.hid (And.intro hb1 hk1); clear hb1 hk1)
      | (refine wpList_atr_blk rfl _ rfl wr.heap.size x rfl H1.out.1 ?_)
      | (go_at_call 81; (with_reducible refine (mAttr (HM'.out.later H1.out.2) x HO.out (by omega)).mono ?_); rintro e w3 ⟨rfl, h3⟩; have H3 := Lib.hid h3; clear h3))
    have e1 : s.ats.take (k + 1) = s.ats.take k ++ [x] := take_snoc HX.out
    refine ⟨⟨k + 1, by congr 1, by omega, ?_⟩, by simp [intOf]; omega⟩
    rw [e1, List.foldl_append]
    exact H3.out
  have hk4' : k = s.ats.length := by omega
  have k1 : ¬ (k : Int) < s.ats.length := by omega
  rw [hk4', List.take_length] at hm
  have e10 : N + 250 + 23 * s.ats.length ≤ N + 986 := by omega
  have hm : WMid wb g mt mr w0 (s.ats.foldl BW.attr b12) (N + 986) w sb (s.cells lv av ev) 76 wr := ⟨hm.at_.mono e10, hm.ap, hm.blk, hm.ne⟩
  clear e10
  go_upto_region 24 with fail
  clear hk4' hk4 hk k0 k1
  obtain ⟨W13, rfl⟩ : ∃ V : World, V = wr := ⟨_, rfl⟩
  obtain ⟨b13, hb13⟩ : ∃ x, x = s.ats.foldl BW.attr b12 := ⟨_, rfl⟩
  rw [← hb13] at hm
  have HB13 := Lib.hid hb13
  clear hb13
  have HM13 := Lib.hid hm
  clear hm
  clear HM12
  go_cut [] (fun wx => WMid wb g mt mr w0 (b13.put (venc s.evs.length)) (N + 996) w sb (s.cells lv av ev) 76 wx)
  case first =>
   as_aux_lemma =>
    have hw9 : IntKind.u64.wrap ((s.evs.length : Int)) = (s.evs.length : Int) := by rw [IntKind.wrap_u64]; omega
    refine wp_region_held_drew (S := WS wb g (b13).st sb (s.cells lv av ev)) (by kernel_rfl) HM13.out.drew.ws (fun hH => ?_)
    refine takeH 0 148 rfl (by kernel_rfl) (by kernel_rfl) (by kernel_rfl) (v := ?_) (fun _ _ _ h => h) rfl (by rfl) ?_ hH ?_
    case refine_2 => intro w hSw; clear hSw; go_simp; try with_reducible rfl
    simp only [List.setIfInBounds_toArray, List.set_cons_zero, List.set_cons_succ]
    refine takeH 1 149 rfl (by kernel_rfl) (by kernel_rfl) (by kernel_rfl) (v := ?_) (fun _ _ _ h => h) rfl (by rfl) ?_ hH ?_
    case refine_2 => intro w hSw; clear hSw; go_simp; try with_reducible rfl
    simp only [List.setIfInBounds_toArray, List.set_cons_zero, List.set_cons_succ]
    refine takeH 2 150 rfl (by kernel_rfl) (by kernel_rfl) (by kernel_rfl) (v := ?_) (fun _ _ _ h => h) rfl (by rfl) ?_ hH ?_
    case refine_2 => intro w hSw; clear hSw; go_simp; try with_reducible rfl
    simp only [List.setIfInBounds_toArray, List.set_cons_zero, List.set_cons_succ]
    refine takeH 3 151 rfl (by kernel_rfl) (by kernel_rfl) (by kernel_rfl) (v := ?_) (fun _ _ _ h => h) rfl (by rfl) ?_ hH ?_
    case refine_2 => intro w hSw; have x0 := hSw.1; clear hSw; go_simp; try with_reducible rfl
    simp only [List.setIfInBounds_toArray, List.set_cons_zero, List.set_cons_succ]
    refine takeH 4 152 rfl (by kernel_rfl) (by kernel_rfl) (by kernel_rfl) (v := ?_) (fun _ _ _ h => h) rfl (by rfl) ?_ hH ?_
    case refine_2 => intro w hSw; clear hSw; go_simp; try with_reducible rfl
    simp only [List.setIfInBounds_toArray, List.set_cons_zero, List.set_cons_succ]
    refine takeH 5 153 rfl (by kernel_rfl) (by kernel_rfl) (by kernel_rfl) (v := ?_) (fun _ _ _ h => h) rfl (by rfl) ?_ hH ?_
    case refine_2 => intro w hSw; have x13 : w.cell? ⟨sb, 12, none⟩ = some (.slice seA s.evs.length sec) := (hSw.2.2 12).trans (by rw [← HV.out.2.2]; rfl); clear hSw; go_simp; try with_reducible rfl
    simp only [List.setIfInBounds_toArray, List.set_cons_zero, List.set_cons_succ]
    refine takeH 6 154 rfl (by kernel_rfl) (by kernel_rfl) (by kernel_rfl) (v := ?_) (fun _ _ _ h => h) rfl (by rfl) ?_ hH ?_
    case refine_2 => intro w hSw; clear hSw; go_simp; try with_reducible rfl
    simp only [List.setIfInBounds_toArray, List.set_cons_zero, List.set_cons_succ]
    refine takeH 7 155 rfl (by kernel_rfl) (by kernel_rfl) (by kernel_rfl) (v := ?_) (fun _ _ _ h => h) rfl (by rfl) ?_ hH ?_
    case refine_2 => intro w hSw; clear hSw; go_simp; try with_reducible rfl
    simp only [List.setIfInBounds_toArray, List.set_cons_zero, List.set_cons_succ]
    clear hH
    refine stepH2 8 156 (by kernel_rfl) rfl rfl rfl _ _ _ rfl Tryz.func35 rfl rfl _ _ rfl rfl (mUint HM13.out.drew s.evs.length (by omega) (by omega)) ?_
    rintro e w3 ⟨rfl, h3⟩
    have H3 := Lib.hid h3
    clear h3
    refine ⟨H3.out.ws, fun hH => ?_⟩
    simp only [List.setIfInBounds_toArray, List.set_cons_zero, List.set_cons_succ]
    refine wpAnyH_done (by kernel_rfl) ?_ _
    go_wp2_with fail
    go_meet
    exact H3.out
  case rest =>
  obtain ⟨W14, rfl⟩ : ∃ V : World, V = wc := ⟨_, rfl⟩
  obtain ⟨b14, hb14⟩ : ∃ x, x = b13.put (venc s.evs.length) := ⟨_, rfl⟩
  rw [← hb14] at hcut
  have HB14 := Lib.hid hb14
  clear hb14
  have HM14 := Lib.hid hcut
  clear hcut
  clear HM13
  have d12 : W14.cell? ⟨sb, 12, none⟩ = some (.slice seA s.evs.length sec) := (HM14.out.cq 12).trans (by rw [← HV.out.2.2]; rfl)
  go_wp2_with fail
  go_loopw [9, 160] (fun a i wr => ∃ k : Nat, i = .int .i64 k ∧ k ≤ s.evs.length ∧ a = .int .i64 (lastA (s.evs.take k)) ∧ WAt wb g mt mr w0 (b14.events 0 (s.evs.take k)) (N + 996 + 21 * k) wr ∧ Apart w wr) (fun _ i _ => s.evs.length - (intOf i).toNat)
  case atStart => exact ⟨0, rfl, Nat.zero_le _, rfl, HM14.out.at_, HM14.out.ap⟩
  obtain ⟨k, rfl, hk, rfl, hm, hap⟩ := hrel
  clear d12
  have k0 : (0 : Int) ≤ k := by omega
  by_cases hk4 : k < s.evs.length
  · as_aux_lemma =>
    obtain ⟨x, hx⟩ : ∃ x, s.evs[k]? = some x := ⟨_, List.getElem?_eq_getElem hk4⟩
    have hmem := List.mem_of_getElem? hx
    obtain ⟨⟨hle, _⟩, hge⟩ := each_at HRW.out.evs hx
    have h62 := (HF.out.evs.2 x hmem).2.1
    have hz := HZ.out.evs x hmem
    have k1 : (k : Int) < s.evs.length := by omega
    obtain ⟨A, c, hA, hca⟩ := HS.out.evs.kept hm.kept
    rw [HV.out.2.2] at hA
    injection hA with eA _ ec
    clear ec
    subst eA
    obtain ⟨ab, ao, eA, hcell⟩ := hca (by omega)
    subst eA
    have q1 := range2 (hcell k x hx)
    have HM' := Lib.hid hm
    have HAP := Lib.hid hap
    have HX := Lib.hid hx
    have HZX := Lib.hid hz
    obtain ⟨p, hp⟩ : ∃ p, p = lastA (s.evs.take k) := ⟨_, rfl⟩
    rw [← hp] at hle hge ⊢
    have HP := Lib.hid hp
    have p2 : 0 ≤ p := by
      rw [hp]
      unfold lastA
      cases hl : (s.evs.take k).getLast? with
      | none => simp
      | some y =>
        have := (HF.out.evs.2 y (List.mem_of_mem_take (List.mem_of_getLast? hl))).1
        simpa using this
    clear hm hap hca hcell hk4 hx hp hz hmem hge
    obtain ⟨eb, heb⟩ : ∃ e, e = wr.heap.size := ⟨_, rfl⟩
    go_upto_region 29 with (first
      | (refine wpList_evt rfl _ rfl ab (ao + k * 2) x rfl q1 ?_)
      | (refine wpList_evt_new rfl _ _ rfl x _ rfl rfl rfl ?_; intro w1 hb1 hk1; have H1 := Lib.hid (And.intro hb1 hk1); clear hb1 hk1))
    have hm1 : WMid wb g mt mr w0 (b14.events 0 (s.evs.take k)) (N + 996 + 21 * k) w eb (evtA x) 134 w1 := ⟨HM'.out.later H1.out.2, HAP.out.trans (.of_kept H1.out.2), by rw [heb]; exact H1.out.1, by decide, by decide, by decide, by decide, by decide⟩
    rw [← heb]
    try simp only [Act.put]
    have HM1' := Lib.hid hm1
    have HEB := Lib.hid heb
    clear hm1 heb q1
    obtain ⟨bk, hbk⟩ : ∃ z, z = b14.events 0 (s.evs.take k) := ⟨_, rfl⟩
    rw [← hbk] at HM1'
    have HBK := Lib.hid hbk
    clear hbk
    have hw90 : IntKind.i64.wrap (x.at_ - p) = x.at_ - p := by rw [IntKind.wrap_i64]; omega
    have hw91 : IntKind.u64.wrap (x.at_ - p) = x.at_ - p := by rw [IntKind.wrap_u64]; omega
    refine wp_region_held_drew (S := WS wb g (bk).st eb (evtA x)) (by kernel_rfl) HM1'.out.drew.ws (fun hH => ?_)
    refine takeH 0 164 rfl (by kernel_rfl) (by kernel_rfl) (by kernel_rfl) (v := ?_) (fun _ _ _ h => h) rfl (by rfl) ?_ hH ?_
    case refine_2 => intro w hSw; clear hSw; go_simp; try with_reducible rfl
    simp only [List.setIfInBounds_toArray, List.set_cons_zero, List.set_cons_succ]
    refine takeH 1 165 rfl (by kernel_rfl) (by kernel_rfl) (by kernel_rfl) (v := ?_) (fun _ _ _ h => h) rfl (by rfl) ?_ hH ?_
    case refine_2 => intro w hSw; clear hSw; go_simp; try with_reducible rfl
    simp only [List.setIfInBounds_toArray, List.set_cons_zero, List.set_cons_succ]
    refine takeH 2 166 rfl (by kernel_rfl) (by kernel_rfl) (by kernel_rfl) (v := ?_) (fun _ _ _ h => h) rfl (by rfl) ?_ hH ?_
    case refine_2 => intro w hSw; clear hSw; go_simp; try with_reducible rfl
    simp only [List.setIfInBounds_toArray, List.set_cons_zero, List.set_cons_succ]
    refine takeH 3 167 rfl (by kernel_rfl) (by kernel_rfl) (by kernel_rfl) (v := ?_) (fun _ _ _ h => h) rfl (by rfl) ?_ hH ?_
    case refine_2 => intro w hSw; have x0 := hSw.1; clear hSw; go_simp; try with_reducible rfl
    simp only [List.setIfInBounds_toArray, List.set_cons_zero, List.set_cons_succ]
    refine takeH 4 168 rfl (by kernel_rfl) (by kernel_rfl) (by kernel_rfl) (v := ?_) (fun _ _ _ h => h) rfl (by rfl) ?_ hH ?_
    case refine_2 => intro w hSw; clear hSw; go_simp; try with_reducible rfl
    simp only [List.setIfInBounds_toArray, List.set_cons_zero, List.set_cons_succ]
    refine takeH 5 169 rfl (by kernel_rfl) (by kernel_rfl) (by kernel_rfl) (v := ?_) (fun _ _ _ h => h) rfl (by rfl) ?_ hH ?_
    case refine_2 => intro w hSw; have x1 : w.cell? ⟨eb, 0, none⟩ = some (.int .i64 x.at_) := (hSw.2.2 0).trans rfl; clear hSw; go_simp; try with_reducible rfl
    simp only [List.setIfInBounds_toArray, List.set_cons_zero, List.set_cons_succ]
    refine takeH 6 170 rfl (by kernel_rfl) (by kernel_rfl) (by kernel_rfl) (v := ?_) (fun _ _ _ h => h) rfl (by rfl) ?_ hH ?_
    case refine_2 => intro w hSw; clear hSw; go_simp; try with_reducible rfl
    simp only [List.setIfInBounds_toArray, List.set_cons_zero, List.set_cons_succ]
    refine takeH 7 171 rfl (by kernel_rfl) (by kernel_rfl) (by kernel_rfl) (v := ?_) (fun _ _ _ h => h) rfl (by rfl) ?_ hH ?_
    case refine_2 => intro w hSw; clear hSw; go_simp; try with_reducible rfl
    simp only [List.setIfInBounds_toArray, List.set_cons_zero, List.set_cons_succ]
    refine takeH 8 172 rfl (by kernel_rfl) (by kernel_rfl) (by kernel_rfl) (v := ?_) (fun _ _ _ h => h) rfl (by rfl) ?_ hH ?_
    case refine_2 => intro w hSw; clear hSw; go_simp; try with_reducible rfl
    simp only [List.setIfInBounds_toArray, List.set_cons_zero, List.set_cons_succ]
    clear hH
    refine stepH2 9 173 (by kernel_rfl) rfl rfl rfl _ _ _ rfl Tryz.func35 rfl rfl _ _ rfl rfl (mUintI HM1'.out.drew (x.at_ - p) (by omega) (by omega) (by omega)) ?_
    rintro e w3 ⟨rfl, h3⟩
    have H3 := Lib.hid h3
    clear h3
    refine ⟨H3.out.ws, fun hH => ?_⟩
    simp only [List.setIfInBounds_toArray, List.set_cons_zero, List.set_cons_succ]
    refine wpAnyH_done (by kernel_rfl) ?_ _
    clear hw90 hw91
    obtain ⟨V2, rfl⟩ : ∃ V : World, V = w3 := ⟨_, rfl⟩
    have q5 : V2.cell? ⟨eb, 0, none⟩ = some (.int .i64 x.at_) := (H3.out.cq 0).trans rfl
    have HM2' := H3
    clear H3 HM1'
    obtain ⟨bl, hbl⟩ : ∃ z, z = bk.put (venc (x.at_ - p).toNat) := ⟨_, rfl⟩
    rw [← hbl] at HM2'
    have HBL := Lib.hid hbl
    clear hbl
    go_upto_region 31 with fail
    clear q5
    refine wp_region_held_drew (S := WS wb g (bl).st eb (evtA x)) (by kernel_rfl) HM2'.out.drew.ws (fun hH => ?_)
    refine takeH 0 176 rfl (by kernel_rfl) (by kernel_rfl) (by kernel_rfl) (v := ?_) (fun _ _ _ h => h) rfl (by rfl) ?_ hH ?_
    case refine_2 => intro w hSw; clear hSw; go_simp; try with_reducible rfl
    simp only [List.setIfInBounds_toArray, List.set_cons_zero, List.set_cons_succ]
    refine takeH 1 177 rfl (by kernel_rfl) (by kernel_rfl) (by kernel_rfl) (v := ?_) (fun _ _ _ h => h) rfl (by rfl) ?_ hH ?_
    case refine_2 => intro w hSw; clear hSw; go_simp; try with_reducible rfl
    simp only [List.setIfInBounds_toArray, List.set_cons_zero, List.set_cons_succ]
    refine takeH 2 178 rfl (by kernel_rfl) (by kernel_rfl) (by kernel_rfl) (v := ?_) (fun _ _ _ h => h) rfl (by rfl) ?_ hH ?_
    case refine_2 => intro w hSw; clear hSw; go_simp; try with_reducible rfl
    simp only [List.setIfInBounds_toArray, List.set_cons_zero, List.set_cons_succ]
    refine takeH 3 179 rfl (by kernel_rfl) (by kernel_rfl) (by kernel_rfl) (v := ?_) (fun _ _ _ h => h) rfl (by rfl) ?_ hH ?_
    case refine_2 => intro w hSw; have x0 := hSw.1; clear hSw; go_simp; try with_reducible rfl
    simp only [List.setIfInBounds_toArray, List.set_cons_zero, List.set_cons_succ]
    refine takeH 4 180 rfl (by kernel_rfl) (by kernel_rfl) (by kernel_rfl) (v := ?_) (fun _ _ _ h => h) rfl (by rfl) ?_ hH ?_
    case refine_2 => intro w hSw; clear hSw; go_simp; try with_reducible rfl
    simp only [List.setIfInBounds_toArray, List.set_cons_zero, List.set_cons_succ]
    refine takeH 5 181 rfl (by kernel_rfl) (by kernel_rfl) (by kernel_rfl) (v := ?_) (fun _ _ _ h => h) rfl (by rfl) ?_ hH ?_
    case refine_2 => intro w hSw; clear hSw; go_simp; try with_reducible rfl
    simp only [List.setIfInBounds_toArray, List.set_cons_zero, List.set_cons_succ]
    refine takeH 6 182 rfl (by kernel_rfl) (by kernel_rfl) (by kernel_rfl) (v := ?_) (fun _ _ _ h => h) rfl (by rfl) ?_ hH ?_
    case refine_2 => intro w hSw; clear hSw; go_simp; try with_reducible rfl
    simp only [List.setIfInBounds_toArray, List.set_cons_zero, List.set_cons_succ]
    refine takeH 7 183 rfl (by kernel_rfl) (by kernel_rfl) (by kernel_rfl) (v := ?_) (fun _ _ _ h => h) rfl (by rfl) ?_ hH ?_
    case refine_2 => intro w hSw; clear hSw; go_simp; try with_reducible rfl
    simp only [List.setIfInBounds_toArray, List.set_cons_zero, List.set_cons_succ]
    refine takeH 8 184 rfl (by kernel_rfl) (by kernel_rfl) (by kernel_rfl) (v := ?_) (fun _ _ _ h => h) rfl (by rfl) ?_ hH ?_
    case refine_2 => intro w hSw; have x2 : w.cell? ⟨eb, 1, none⟩ = some (.string x.n) := (hSw.2.2 1).trans rfl; clear hSw; go_simp; try with_reducible rfl
    simp only [List.setIfInBounds_toArray, List.set_cons_zero, List.set_cons_succ]
    clear hH
    refine stepH2 9 185 (by kernel_rfl) rfl rfl rfl _ _ _ rfl Tryz.func79 rfl rfl _ _ rfl rfl (mText HM2'.out.drew x.n HZX.out (by omega)) ?_
    rintro e w3 ⟨rfl, h3⟩
    have H3 := Lib.hid h3
    clear h3
    refine ⟨H3.out.ws, fun hH => ?_⟩
    simp only [List.setIfInBounds_toArray, List.set_cons_zero, List.set_cons_succ]
    clear hH
    refine stepH2 10 186 (by kernel_rfl) rfl rfl rfl _ _ _ rfl Tryz.func35 rfl rfl _ _ rfl rfl (mTextN H3.out (by omega) (HM2'.out.idxT x.n (by omega))) ?_
    rintro e w4 ⟨rfl, h4⟩
    have H4 := Lib.hid h4
    clear h4
    refine ⟨H4.out.ws, fun hH => ?_⟩
    simp only [List.setIfInBounds_toArray, List.set_cons_zero, List.set_cons_succ]
    refine wpAnyH_done (by kernel_rfl) ?_ _
    have HM3' := H4
    clear H4 H3 HM2'
    go_wp2_with fail
    have e1 : s.evs.take (k + 1) = s.evs.take k ++ [x] := take_snoc HX.out
    refine ⟨⟨k + 1, by congr 1, by omega, by rw [e1]; unfold lastA; simp, ?_, HM3'.out.ap⟩, by simp [intOf]; omega⟩
    rw [e1, events_snoc]
    have e2 : ((b14.events 0 (s.evs.take k)).put (venc (x.at_ - ((s.evs.take k).getLast?.map Evt.at_).getD 0).toNat)).text x.n = bl.text x.n := by
      rw [HBL.out, HBK.out, HP.out]; rfl
    rw [e2]
    exact HM3'.out.at_.mono (by omega)
  have hk4' : k = s.evs.length := by omega
  have k1 : ¬ (k : Int) < s.evs.length := by omega
  rw [hk4', List.take_length] at hm
  have e10 : N + 996 + 21 * s.evs.length ≤ N + 1668 := by omega
  have HM9 := Lib.hid (And.intro (hm.mono e10) hap)
  clear hm hap e10 HM14
  go_wp2_with fail
  go_end0
  have ee : b.span s = b14.events 0 s.evs := by rw [span_eq, HB14.out, HB13.out, HB12.out, HB11.out, HB10.out, HB9.out, HB8.out, HB7.out, HB6.out, HB5.out, HB4.out, HB3.out, HB2.out, HB1.out, HST.out]; rfl
  rw [ee]
  exact ⟨rfl, HM9.out.1.mono (by omega), HM9.out.2⟩
end Go.Proofs.YtlcbgklealipoaaGreatDoor
