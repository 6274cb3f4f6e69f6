/- BatchForm (the walk). -/
import Derived.Test.YtlcbgklealipoaaGreatDoorH3
import Derived.Test.YtlcbgklealipoaaGreatDoorH5a
namespace Go.Proofs.YtlcbgklealipoaaGreatDoor
open Go Go.RowKit
set_option linter.unusedVariables false
set_option linter.unusedSimpArgs false

set_option maxHeartbeats 4000000 in
set_option maxRecDepth 100000 in
theorem batchForm_any (L : List Int) (v : Value) (w : World) (hr : RdsB w v L) (hb : Bytes L) (hl : L.length ≤ 140737488355328) (hU : Lib.Utf8Tabs 1 2 w) (hnd : Handle w) : Calls Tryz.prog 5 #[v] w (TruePost w) := by
  obtain ⟨A, c, rfl, hh1, hh2⟩ := id hr
  have HU := Lib.hid (And.intro hU hnd)
  have HR := Lib.hid hr
  have HSH := Lib.hid (shown_any w hU hnd)
  have hdec : ∀ w1, Kept (fun _ => False) w w1 → Calls Tryz.prog 13 #[.slice A L.length c] w1 (DecPost L w1) := fun w1 hk => decode_any _ (HR.out.kept hk) hb hl (Utf8Tabs.kept hU hk (fun h => h) (fun h => h)) (hnd.kept hk (fun h => h))
  have HDEC := Lib.hid hdec
  clear hU hnd hr hdec hh1 hh2
  cases hd : decB L with
  | err a no =>
    obtain ⟨a0, a1, an⟩ := decB_err hb hd
    have HD := Lib.hid hd
    have b1 : (0 ≤ a) = True := eq_true a0
    have b2 : (a ≤ L.length) = True := eq_true a1
    have b3 : (no != 0) = true := by rw [bne_iff_ne]; exact an
    have b4 : (no == 0) = false := by rw [beq_eq_false_iff_ne]; exact an
    clear hd a0 a1 an
    go_enter Tryz.func5, Tryz.ntmps5
    go_upto_region 5 with (first
      | (go_at_call 10; (with_reducible refine HSH.out.mono ?_); rintro e w1 ⟨rfl, hk1⟩; have H1 := Lib.hid hk1; clear hk1)
      | (go_at_call 13; (with_reducible refine (HDEC.out w1 H1.out).mono ?_); rintro e w2 hp; unfold DecPost at hp; rw [HD.out] at hp; obtain ⟨g, rfl, hg, hk2⟩ := hp; have H2 := Lib.hid (And.intro hg (H1.out.trans hk2 (U := fun _ => False) (fun _ _ e => e) (fun _ _ e => e))); clear hg hk2))
    obtain ⟨W, hW⟩ : ∃ W, W = w2.alloc (.cells #[.pointer none] 35) := ⟨_, rfl⟩
    obtain ⟨q, hq⟩ : ∃ q, q = w2.heap.size := ⟨_, rfl⟩
    have ka : Kept (fun _ => False) w2 W := by rw [hW]; exact .alloc _ _ _
    have bq : W.heap[q]? = some (.cells #[.pointer none] 35 (0, 0)) := by rw [hW, hq]; exact heap_alloc_new w2 _
    have bg := blk_kept ka H2.out.1 (fun e => e)
    have hgq : ¬ g = q := by have := blk_lt H2.out.1; omega
    have kw : Kept (fun _ => False) w W := H2.out.2.trans ka (fun _ _ e => e) (fun _ _ e => e)
    have hwq : w.heap.size ≤ q := by have := H2.out.2.size; omega
    have HB := Lib.hid (And.intro bq (And.intro bg (And.intro hgq (And.intro kw hwq))))
    have has : Calls Tryz.prog 15 #[.iface 35 (.pointer (some ⟨g, 0, none⟩)), .iface 37 (.pointer (some ⟨q, 0, none⟩))] W fun ev w' => ev = .returned (.bool true) ∧ w'.cell? ⟨q, 0, none⟩ = some (.pointer (some ⟨g, 0, none⟩)) ∧ Kept (fun k => k = q) W w' := as_hit2 ⟨g, 0, none⟩ q (.pointer none) W (HU.out.2.kept kw (fun h => h)) bq
    have HAS := Lib.hid has
    rw [← hW, ← hq]
    clear hW hq ka bq bg hgq kw hwq has
    go_wp2_with (go_at_call 15; (with_reducible refine HAS.out.mono ?_); rintro ev w3 ⟨rfl, y0, hk3⟩; have b5 := blk_kept hk3 HB.out.2.1 HB.out.2.2.1; have y1 : w3.cell? ⟨g, 0, none⟩ = some (.int .i64 a) := (blk_cell b5 0).trans rfl; have y2 : w3.cell? ⟨g, 1, none⟩ = some (.int .i64 no) := (blk_cell b5 1).trans rfl; have H3 := Lib.hid hk3; clear b5 hk3)
    go_ret
    exact ⟨rfl, HB.out.2.2.2.1.trans H3.out (fun _ _ e => e) (fun i hi e => by have := HB.out.2.2.2.2; omega)⟩
  | ok l =>
    obtain ⟨g1, g2, g3, g4⟩ := decB_form hb hd
    have henc : encR l = .ok L := enc_ok.2 ⟨g2, g3, by rw [g4]; exact g1, g4.symm⟩
    have HE := Lib.hid henc
    have HF := Lib.hid (dec_fits hb hd)
    have HD := Lib.hid hd
    have z1 : (l.length : Int) ≤ 500 := by omega
    have hl5 : l.length ≤ 9223372036854775807 := by omega
    have HLL := Lib.hid hl5
    clear hd g1 g2 g3 g4 henc hl5
    go_enter Tryz.func5, Tryz.ntmps5
    go_upto_region 7 with (first
      | (go_at_call 10; (with_reducible refine HSH.out.mono ?_); rintro e w1 ⟨rfl, hk1⟩; have H1 := Lib.hid hk1; clear hk1)
      | (go_at_call 13; (with_reducible refine (HDEC.out w1 H1.out).mono ?_); rintro e w2 hp; unfold DecPost at hp; rw [HD.out] at hp; obtain ⟨v2, q, rfl, hq, hs, hk2⟩ := hp; have H2 := Lib.hid (And.intro (own_sps hs hq HF.out) (H1.out.trans hk2 (U := fun _ => False) (fun _ _ e => e) (fun _ _ e => e))); clear hk2 hs hq))
    obtain ⟨A2, c2, rfl⟩ := sps_slice H2.out.1
    have hen : Calls Tryz.prog 12 #[.slice A2 l.length c2] w2 (EncPost l w2) := encode_any l _ w2 H2.out.1 HLL.out (Utf8Tabs.kept HU.out.1 H2.out.2 (fun h => h) (fun h => h))
    have HEN := Lib.hid hen
    clear hen
    go_upto_region 8 with (go_at_call 12; (with_reducible refine HEN.out.mono ?_); rintro e w3 hp; unfold EncPost at hp; rw [HE.out] at hp; obtain ⟨v3, rfl, hl3, hk3⟩ := hp; have H3 := Lib.hid (And.intro hl3.rdsB (H2.out.2.trans hk3 (U := fun _ => False) (fun _ _ e => e) (fun _ _ e => e))); clear hl3 hk3)
    obtain ⟨A3, c3, rfl, _, _⟩ := id H3.out.1
    have hcv1 := conv_rdsB H3.out.1
    have hcv2 := conv_rdsB (HR.out.kept H3.out.2)
    obtain ⟨S, hS⟩ : ∃ S, S = strOfNums L := ⟨_, rfl⟩
    rw [← hS] at hcv1 hcv2
    clear hS
    go_wp2_with fail
    go_ret
    exact ⟨rfl, H3.out.2⟩
end Go.Proofs.YtlcbgklealipoaaGreatDoor
