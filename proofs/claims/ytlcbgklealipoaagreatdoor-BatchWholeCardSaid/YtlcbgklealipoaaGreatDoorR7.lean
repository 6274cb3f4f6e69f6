/- Encode (the walk). -/
import Derived.Test.YtlcbgklealipoaaGreatDoorR5
import Derived.Test.YtlcbgklealipoaaGreatDoorR6
import Derived.Test.YtlcbgklealipoaaGreatDoorZU
import Derived.Carry
namespace Go.Proofs.YtlcbgklealipoaaGreatDoor
open Go Go.RowKit
set_option linter.unusedVariables false
set_option linter.unusedSimpArgs false

set_option maxHeartbeats 32000000 in
set_option maxRecDepth 100000 in
theorem encode_any (ss : List Spn) (v : Value) (w : World) (hs : SpsReads w v ss) (hl : ss.length ≤ 9223372036854775807) (hU : Lib.Utf8Tabs 1 2 w) : Calls Tryz.prog 12 #[v] w (EncPost ss w) := by
  obtain ⟨A, c, rfl, hca⟩ := hs
  by_cases hmany : 500 < ss.length
  · have h1 : (500 : Int) < ss.length := by omega
    have HM := Lib.hid hmany
    clear hca hU hmany
    go_enter Tryz.func12, Tryz.ntmps12
    go_wp2_with fail
    go_ret2
    exact EncPost.bad (encR_many HM.out) rfl (.refl _ _)
  have h1 : ¬ (500 : Int) < ss.length := by omega
  have h500 : ss.length ≤ 500 := by omega
  have HU := Lib.hid hU
  have HS := Lib.hid hca
  clear hca hU hmany hl
  go_enter Tryz.func12, Tryz.ntmps12
  have hmk := fun (t : TypeId) (W : World) => run_makeMap (P := Tryz.prog) t W
  go_upto_region 4 with (go_at_call 31; (with_reducible refine (newWriter_any w).mono ?_); rintro e w' ⟨rfl, rfl⟩)
  obtain ⟨W0, hW0⟩ : ∃ W0, W0 = ((((w.alloc (Obj.cells #[Value.slice none 0 0] 160)).alloc (Obj.map #[] 0)).alloc (Obj.map #[] 0)).alloc (Obj.cells #[Value.pointer (some ⟨w.heap.size, 0, none⟩), Value.map (some (w.heap.size + 1)), Value.slice none 0 0, Value.map (some (w.heap.size + 1 + 1)), Value.slice none 0 0, Value.int IntKind.i64 0] 91)) := ⟨_, rfl⟩
  have hA : WAt (w.heap.size + 1 + 1 + 1) w.heap.size (w.heap.size + 1) (w.heap.size + 1 + 1) w ⟨[], [], 0, []⟩ 0 W0 := by rw [hW0]; exact WAt.new w
  rw [← hW0]
  clear hW0 hmk
  obtain ⟨wb, hwb⟩ : ∃ x, x = w.heap.size + 1 + 1 + 1 := ⟨_, rfl⟩
  obtain ⟨mr, hmr⟩ : ∃ x, x = w.heap.size + 1 + 1 := ⟨_, rfl⟩
  obtain ⟨mt, hmt⟩ : ∃ x, x = w.heap.size + 1 := ⟨_, rfl⟩
  rw [← hwb, ← hmr, ← hmt] at hA
  rw [← hwb]
  have HA := Lib.hid hA
  clear hA hwb hmr hmt
  go_wp2_with fail
  go_loopw [28] (fun i wr => ∃ k : Nat, i = .int .i64 k ∧ k ≤ ss.length ∧ (∀ x ∈ ss.take k, checkS x = 0) ∧ WAt wb w.heap.size mt mr w ((ss.take k).foldl BW.span ⟨[], [], 0, []⟩) (1668 * k) wr) (fun i _ => ss.length - (intOf i).toNat)
  case atStart => exact ⟨0, rfl, Nat.zero_le _, (fun x hx => by simp at hx), HA.out⟩
  obtain ⟨k, rfl, hk, hall, hm⟩ := hrel
  clear HA
  have k0 : (0 : Int) ≤ k := by omega
  by_cases hk4 : k < ss.length
  · as_aux_lemma =>
    obtain ⟨s, hx⟩ : ∃ x, ss[k]? = some x := ⟨_, List.getElem?_eq_getElem hk4⟩
    have k1 : (k : Int) < ss.length := by omega
    obtain ⟨sb, so, eA, hq⟩ := HS.out (by omega)
    subst eA
    obtain ⟨lv, av, ev, hr, hsr, hz, hf⟩ := hq k s hx
    have hr1 := rangeAt_kept hr hm.kept
    have HSR := Lib.hid hsr
    have HZ := Lib.hid hz
    have HF := Lib.hid hf
    have HM := Lib.hid hm
    have HX := Lib.hid hx
    have HALL := Lib.hid hall
    have hones := spn_ones hsr
    have HON := Lib.hid hones
    have HR1 := Lib.hid hr1
    obtain ⟨cz, hcz⟩ : ∃ z, z = checkS s := ⟨_, rfl⟩
    have HCZ := Lib.hid hcz
    have hst := spans_st (ss.take k) ⟨[], [], 0, []⟩ (by simp) hall
    have HST := Lib.hid hst
    obtain ⟨bk, hbk⟩ : ∃ z, z = (ss.take k).foldl BW.span ⟨[], [], 0, []⟩ := ⟨_, rfl⟩
    rw [← hbk] at HM HST
    have HBK := Lib.hid hbk
    clear hm hq hr hsr hz hf hx hall hones hr1 hcz hst hbk hk4
    go_upto_region 8 with (first
      | (refine wpList_loadS rfl _ rfl sb (so + k * 13) s lv av ev rfl HR1.out ?_)
      | (refine wpList_spn_new rfl _ _ rfl (s.cells lv av ev) _ rfl rfl rfl HON.out rfl ?_; intro w1 hb1 hk1; have H1 := Lib.hid (And.intro hb1 hk1); clear hb1 hk1)
      | (refine wpList_load76 rfl _ rfl wr.heap.size (s.cells lv av ev) rfl H1.out.1 rfl ?_)
      | (go_at_call 32; (with_reducible refine (check_any s lv av ev w1 (HSR.out.kept ((HM.out.kept.trans H1.out.2 (U := fun _ => False) (fun _ _ e => e) (fun _ _ e => e)))) HZ.out (Utf8Tabs.kept HU.out (HM.out.kept.trans H1.out.2 (U := fun _ => False) (fun _ _ e => e) (fun _ _ e => e)) (fun h => h) (fun h => h))).mono ?_); rintro e w2 ⟨rfl, hk2⟩; rw [← HCZ.out]; have H2 := Lib.hid hk2; clear hk2))
    by_cases hc : cz = 0
    case neg =>
      have e1 : (cz == 0) = false := by simpa using hc
      have e2 : (cz != 0) = true := by simpa using hc
      have HC := Lib.hid hc
      clear hc
      go_wp2_with fail
      go_ret2
      refine EncPost.bad (by rw [HCZ.out]; exact encR_bad h500 HX.out HALL.out (by rw [← HCZ.out]; exact HC.out)) rfl ?_
      exact (HM.out.kept.trans H1.out.2 (U := fun _ => False) (fun _ _ e => e) (fun _ _ e => e)).trans H2.out (fun _ _ e => e) (fun _ _ e => e)
    have HC : Hid (checkS s = 0) := Lib.hid (by rw [← HCZ.out]; exact hc)
    subst hc
    have h3 := (HM.out.later H1.out.2).later H2.out
    have HM3 := Lib.hid h3
    have hb2 := blk_kept H2.out H1.out.1 (fun h => h)
    clear h3
    go_wp2_with (first
      | (refine wpList_load76 rfl _ rfl wr.heap.size (s.cells lv av ev) rfl hb2 rfl ?_)
      | (go_at_call 33; (with_reducible refine (wspan_any HM3.out s lv av ev HSR.out HC.out HF.out HZ.out HST.out (by omega)).mono ?_); rintro e w3 ⟨rfl, h4, _⟩; have H4 := Lib.hid h4; clear h4))
    have e1 : ss.take (k + 1) = ss.take k ++ [s] := take_snoc HX.out
    refine ⟨⟨k + 1, by congr 1, by omega, ?_, ?_⟩, by simp [intOf]; omega⟩
    · rw [e1]
      intro x hx
      rcases List.mem_append.1 hx with hx | hx
      · exact HALL.out x hx
      · rw [List.mem_singleton] at hx; rw [hx]; exact HC.out
    · rw [e1, List.foldl_append, ← HBK.out]
      exact H4.out.mono (by omega)
  have hk4' : k = ss.length := by omega
  have k1 : ¬ (k : Int) < ss.length := by omega
  rw [hk4', List.take_length] at hm hall
  have HALL := Lib.hid hall
  have hm : WAt wb w.heap.size mt mr w (bodyB ss) 834000 wr := hm.mono (by omega)
  have HM := Lib.hid hm
  clear hm hall
  obtain ⟨V, rfl⟩ : ∃ V : World, V = wr := ⟨_, rfl⟩
  have hfit : ∀ x ∈ ss, Fits x := fun x hx => by
    obtain ⟨i, hi⟩ := List.mem_iff_getElem?.1 hx
    obtain ⟨b, o, _, hq⟩ := HS.out (by have := (List.getElem?_eq_some_iff.1 hi).1; omega)
    obtain ⟨_, _, _, _, _, _, hf⟩ := hq i x hi
    exact hf
  have htab := Tab.body ss fun x hx => ⟨HALL.out x hx, hfit x hx⟩
  obtain ⟨b, hb⟩ : ∃ b, b = bodyB ss := ⟨_, rfl⟩
  rw [← hb] at HM htab
  have HTAB := Lib.hid htab
  have HB := Lib.hid hb
  obtain ⟨l1, l2, l3⟩ := HM.out.len
  obtain ⟨tv, rv, a1, a2⟩ := HM.out.st
  obtain ⟨gv, hgv⟩ := HM.out.wr
  obtain ⟨tA, tc, rfl⟩ := own_slice a1.row
  obtain ⟨rA, rc, rfl⟩ := own_slice a2.row
  have hc0 : ∀ W, Kept (fun _ => False) V W → W.cell? ⟨wb, 0, none⟩ = some (.pointer (some ⟨w.heap.size, 0, none⟩)) := fun W hk => cell_kept hk HM.out.c0
  have hc2 : ∀ W, Kept (fun _ => False) V W → W.cell? ⟨wb, 2, none⟩ = some (.slice tA b.tx.length tc) := fun W hk => cell_kept hk ((blk_cell a1.blk 2).trans rfl)
  have hc4 : ∀ W, Kept (fun _ => False) V W → W.cell? ⟨wb, 4, none⟩ = some (.slice rA b.tr.length rc) := fun W hk => cell_kept hk ((blk_cell a1.blk 4).trans rfl)
  have HC0 := Lib.hid hc0
  have HC2 := Lib.hid hc2
  have HC4 := Lib.hid hc4
  have HA1 := Lib.hid a1.row
  have HA2 := Lib.hid a2.row
  have HGV := Lib.hid hgv
  clear hfit htab hb a1 a2 hgv hc0 hc2 hc4 hm
  go_upto_region 13 with (go_at_call 31; (with_reducible refine (newWriter_any V).mono ?_); rintro e w' ⟨rfl, rfl⟩)
  clear hk4' hk4 hk k0 k1
  obtain ⟨g2, hg2⟩ : ∃ g, g = V.heap.size := ⟨_, rfl⟩
  obtain ⟨W1, hW1⟩ : ∃ W, W = V.alloc (.cells #[.slice none 0 0] 160) := ⟨_, rfl⟩
  have ho : OAt V g2 [] 0 W1 := by rw [hW1, hg2]; exact OAt.new V
  rw [← hW1, ← hg2]
  have HO := Lib.hid ho
  clear ho hW1 hg2
  go_upto_region 14 with (go_at_call 34; (with_reducible refine (oRaw (HO.out.alloc _) _ [83, 66, 1] 3 (bytes3 W1 83 66 1) (by simp) (by omega) (by omega)).mono ?_); rintro e W2 ⟨rfl, ho2, _⟩; have HO2 := Lib.hid ho2; clear ho2)
  have q2 := HC2.out W2 HO2.out.kept
  go_upto_region 15 with (go_at_call 35; (with_reducible refine (oUint HO2.out b.tx.length (by omega) (by omega)).mono ?_); rintro e W3 ⟨rfl, ho3, _⟩; have HO3 := Lib.hid ho3; clear ho3)
  clear q2
  have q2 := HC2.out W3 HO3.out.kept
  obtain ⟨L1, hL1⟩ : ∃ l, l = ([] ++ [83, 66, 1]) ++ venc b.tx.length := ⟨_, rfl⟩
  rw [← hL1] at HO3
  have HL1 := Lib.hid hL1
  clear hL1 HO HO2
  go_wp2_with fail
  go_loopw [65] (fun i wr => ∃ k : Nat, i = .int .i64 k ∧ k ≤ b.tx.length ∧ OAt V g2 (L1 ++ (b.tx.take k).flatMap txt) (13 + 210 * k) wr) (fun i _ => b.tx.length - (intOf i).toNat)
  case atStart => exact ⟨0, rfl, Nat.zero_le _, by simpa using HO3.out⟩
  obtain ⟨k, rfl, hk, hm⟩ := hrel
  clear HO3 q2
  have k0 : (0 : Int) ≤ k := by omega
  by_cases hk4 : k < b.tx.length
  · as_aux_lemma =>
    obtain ⟨x, hx⟩ : ∃ x, b.tx[k]? = some x := ⟨_, List.getElem?_eq_getElem hk4⟩
    have k1 : (k : Int) < b.tx.length := by omega
    have hx2 := (HTAB.out.ok x (List.mem_of_getElem? hx)).1
    obtain ⟨tg, eA, _, hcell⟩ := own_elem HA1.out (by rw [List.length_map]; omega)
    subst eA
    have q1 := cell_kept hm.kept (hcell k (.string x) (by rw [List.getElem?_map, hx]; rfl))
    have HM' := Lib.hid hm
    have HX := Lib.hid hx
    clear hm hx hcell hk4
    go_wp2_with (go_at_call 36; (with_reducible refine (oText HM'.out x hx2 (by omega)).mono ?_); rintro e w3 ⟨rfl, h3, _⟩; have H3 := Lib.hid h3; clear h3)
    refine ⟨⟨k + 1, by congr 1, by omega, ?_⟩, by simp [intOf]; omega⟩
    rw [flat_snoc txt HX.out, ← List.append_assoc]
    exact H3.out
  have hk4' : k = b.tx.length := by omega
  have k1 : ¬ (k : Int) < b.tx.length := by omega
  rw [hk4', List.take_length] at hm
  have hm : OAt V g2 (L1 ++ b.tx.flatMap txt) 175140013 wr := ⟨hm.wr, hm.kept, Nat.le_trans hm.len (by omega)⟩
  obtain ⟨W4, rfl⟩ : ∃ V : World, V = wr := ⟨_, rfl⟩
  obtain ⟨L2, hL2⟩ : ∃ l, l = L1 ++ b.tx.flatMap txt := ⟨_, rfl⟩
  rw [← hL2] at hm
  have HO4 := Lib.hid hm
  have HL2 := Lib.hid hL2
  have q4 := HC4.out W4 hm.kept
  clear hm hL2
  go_upto_region 21 with (go_at_call 35; (with_reducible refine (oUint HO4.out b.tr.length (by omega) (by omega)).mono ?_); rintro e W5 ⟨rfl, ho5, _⟩; have HO5 := Lib.hid ho5; clear ho5)
  clear q4 hk4' hk4 hk k0 k1
  have q4 := HC4.out W5 HO5.out.kept
  obtain ⟨L3, hL3⟩ : ∃ l, l = L2 ++ venc b.tr.length := ⟨_, rfl⟩
  rw [← hL3] at HO5
  have HL3 := Lib.hid hL3
  clear hL3 HO4
  go_wp2_with fail
  go_loopw [88] (fun i wr => ∃ k : Nat, i = .int .i64 k ∧ k ≤ b.tr.length ∧ OAt V g2 (L3 ++ (b.tr.take k).flatMap pairB) (175140023 + 16 * k) wr) (fun i _ => b.tr.length - (intOf i).toNat)
  case atStart => exact ⟨0, rfl, Nat.zero_le _, by simpa using HO5.out⟩
  obtain ⟨k, rfl, hk, hm⟩ := hrel
  clear HO5 q4
  have k0 : (0 : Int) ≤ k := by omega
  by_cases hk4 : k < b.tr.length
  · as_aux_lemma =>
    obtain ⟨x, hx⟩ : ∃ x, b.tr[k]? = some x := ⟨_, List.getElem?_eq_getElem hk4⟩
    have k1 : (k : Int) < b.tr.length := by omega
    have hok := HTAB.out.okp x (List.mem_of_getElem? hx)
    obtain ⟨tg, eA, _, hcell⟩ := own_elem HA2.out (by rw [HA2.out.1]; omega)
    subst eA
    obtain ⟨x1, x2⟩ := tr_get b.tr k x hx
    have q1 : wr.rangeAt tg (k * 2) (trA x).toList := by
      intro j u hu
      match j, hu with
      | 0, hu => injection hu with hu; subst hu; rw [Nat.mul_comm]; exact cell_kept hm.kept (hcell _ _ x1)
      | 1, hu => injection hu with hu; subst hu; rw [Nat.mul_comm]; exact cell_kept hm.kept (hcell _ _ x2)
    have HM' := Lib.hid hm
    have HX := Lib.hid hx
    have HQ1 := Lib.hid q1
    have y8 : x.1 < 18446744073709551616 := hok.1
    have y9 : x.2 < 18446744073709551616 := hok.2
    clear hm hx hcell hk4 x1 x2 q1 hok
    go_upto_region 25 with (first
      | (refine wpList_tr rfl _ rfl tg (k * 2) x rfl HQ1.out ?_)
      | (refine wpList_tr_new rfl _ _ rfl x _ rfl rfl rfl ?_; intro w1 hb1 hk1; have y0 : w1.cell? ⟨wr.heap.size, 0, none⟩ = some (Value.int .u64 x.1) := (blk_cell hb1 0).trans rfl; have H1 := Lib.hid (And.intro hb1 hk1); clear hb1 hk1)
      | (go_at_call 37; (with_reducible refine (raw8_any x.1 w1 y8).mono ?_); rintro e w2 ⟨v2, rfl, hr2, hk2⟩; have H2 := Lib.hid (And.intro hr2 hk2); clear hr2 hk2)
      | (go_at_call 34; (with_reducible refine (oRaw ((HM'.out.later H1.out.2).later H2.out.2) v2 (raw8 x.1) 8 H2.out.1 (by rw [raw8_len]; omega) (by omega) (by omega)).mono ?_); rintro e w3 ⟨rfl, h3, hx3⟩; have y1 : w3.cell? ⟨wr.heap.size, 1, none⟩ = some (Value.int .u64 x.2) := (blk_cell (hx3 _ _ _ _ (blk_kept H2.out.2 H1.out.1 (fun h => h)) (by decide) (by decide)) 1).trans rfl; have H3 := Lib.hid h3; clear h3 hx3))
    go_wp2_with (first
      | (go_at_call 37; (with_reducible refine (raw8_any x.2 w3 y9).mono ?_); rintro e w4 ⟨v4, rfl, hr4, hk4⟩; have H4 := Lib.hid (And.intro hr4 hk4); clear hr4 hk4)
      | (go_at_call 34; (with_reducible refine (oRaw (H3.out.later H4.out.2) v4 (raw8 x.2) 8 H4.out.1 (by rw [raw8_len]; omega) (by omega) (by omega)).mono ?_); rintro e w5 ⟨rfl, h5, _⟩; have H5 := Lib.hid h5; clear h5))
    refine ⟨⟨k + 1, by congr 1, by omega, ?_⟩, by simp [intOf]; omega⟩
    rw [flat_snoc pairB HX.out, pairB, ← List.append_assoc, ← List.append_assoc]
    exact H5.out
  have hk4' : k = b.tr.length := by omega
  have k1 : ¬ (k : Int) < b.tr.length := by omega
  rw [hk4', List.take_length] at hm
  have hm : OAt V g2 (L3 ++ b.tr.flatMap pairB) 188484023 wr := ⟨hm.wr, hm.kept, Nat.le_trans hm.len (by omega)⟩
  obtain ⟨W6, rfl⟩ : ∃ V : World, V = wr := ⟨_, rfl⟩
  obtain ⟨L4, hL4⟩ : ∃ l, l = L3 ++ b.tr.flatMap pairB := ⟨_, rfl⟩
  rw [← hL4] at hm
  have HO6 := Lib.hid hm
  have HL4 := Lib.hid hL4
  clear hm hL4
  go_upto_region 28 with (go_at_call 35; (with_reducible refine (oUint HO6.out ss.length (by omega) (by omega)).mono ?_); rintro e W7 ⟨rfl, ho7, _⟩; have HO7 := Lib.hid ho7; clear ho7)
  clear hk4' hk4 hk k0 k1
  have q0 := HC0.out W7 HO7.out.kept
  go_upto_region 29 with (first
    | (go_at_call 38; (with_reducible refine (bytes_any w.heap.size w.heap.size gv b.out W7 (HGV.out.kept HO7.out.kept (fun h => h) (fun _ _ h => h)) (by omega)).mono ?_); rintro e W8 ⟨v8, rfl, hl8, hk8, _⟩; have H8 := Lib.hid (And.intro hl8 hk8); clear hl8 hk8)
    | (go_at_call 34; (with_reducible refine (oRaw (HO7.out.later H8.out.2) v8 b.out 834000 H8.out.1.reads (by omega) (by omega) (by omega)).mono ?_); rintro e W9 ⟨rfl, ho9, _⟩; have HO9 := Lib.hid ho9; clear ho9))
  have hE : (L4 ++ venc ss.length) ++ b.out = encB ss := by
    rw [HL4.out, HL3.out, HL2.out, HL1.out, HB.out]
    simp [encB, List.append_assoc]
  rw [hE] at HO9
  have hR := encR_end h500 HALL.out
  have HR := Lib.hid hR
  have hK : Kept (fun _ => False) w W9 := HM.out.kept.trans HO9.out.kept (fun _ _ e => e) (fun _ _ e => e)
  have HK := Lib.hid hK
  obtain ⟨E, hEE⟩ : ∃ E, E = encB ss := ⟨_, rfl⟩
  rw [← hEE] at HO9 HR
  have HEE := Lib.hid hEE
  clear hE hR hK hEE q0 HO7 HO6
  have hEl := HO9.out.len
  by_cases hbig : 65536 < E.length
  · have b1 : (65536 : Int) < E.length := by omega
    have HBIG := Lib.hid hbig
    clear hbig
    go_wp2_with (go_at_call 39; (with_reducible refine (oLen HO9.out (by omega)).mono ?_); rintro e w' ⟨rfl, rfl⟩)
    go_ret2
    exact EncPost.bad (by rw [HR.out, if_pos HBIG.out]) rfl HK.out
  · have b1 : ¬ (65536 : Int) < E.length := by omega
    have HBIG := Lib.hid hbig
    clear hbig
    go_wp2_with (first
      | (go_at_call 39; (with_reducible refine (oLen HO9.out (by omega)).mono ?_); rintro e w' ⟨rfl, rfl⟩)
      | (go_at_call 38; (with_reducible refine (oBytes HO9.out (by omega)).mono ?_); rintro e WA ⟨vA, rfl, hlA, hkA, _⟩; have H10 := Lib.hid (And.intro hlA hkA); clear hlA hkA))
    go_ret2
    unfold EncPost
    rw [HR.out, if_neg HBIG.out]
    exact ⟨vA, rfl, H10.out.1.mono HK.out.size, HK.out.trans H10.out.2 (fun _ _ e => e) (fun _ _ e => e)⟩
end Go.Proofs.YtlcbgklealipoaaGreatDoor
