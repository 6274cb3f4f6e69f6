/- BatchWhole (the walk; printed by gen_h6.py). -/
import Derived.Test.YtlcbgklealipoaaGreatDoorH6a
namespace Go.Proofs.YtlcbgklealipoaaGreatDoor
open Go Go.RowKit
set_option linter.unusedVariables false
set_option linter.unusedSimpArgs false

set_option maxHeartbeats 16000000 in
set_option maxRecDepth 100000 in
theorem batchWhole_any (ss : List Spn) (v : Value) (n : Int) (M : List Int) (vm : Value) (w : World) (hs : SpsReads w v ss) (hl : ss.length ≤ 9223372036854775807) (hn : -9223372036854775808 ≤ n ∧ n ≤ 9223372036854775807) (hrm : RdsB w vm M) (hbm : Bytes M) (hlm : M.length ≤ 140737488355328) (hcm : ∃ A c, vm = .slice A M.length c ∧ M.length ≤ c ∧ c ≤ 9223372036854775807) (hU : Lib.Utf8Tabs 1 2 w) (hnd : Handle w) :
    Calls Tryz.prog 9 #[v, .int .i64 n, vm] w (TruePost w) := by
  obtain ⟨A0, c0, rfl⟩ := sps_slice hs
  obtain ⟨Am, cm, rfl, hcmp, hcm63⟩ := hcm
  have HU := Lib.hid (And.intro hU hnd)
  have HS := Lib.hid hs
  have HSH := Lib.hid (shown_any w hU hnd)
  have HRMM := Lib.hid hrm
  have HBM := Lib.hid hbm
  clear hU hnd hs hrm hbm
  have henc : ∀ w1, Kept (fun _ => False) w w1 → Calls Tryz.prog 12 #[.slice A0 ss.length c0] w1 (EncPost ss w1) := fun w1 hk => encode_any ss _ w1 (HS.out.kept hk) hl (Utf8Tabs.kept HU.out.1 hk (fun h => h) (fun h => h))
  have HENC := Lib.hid henc
  clear henc
  cases he : encR ss with
  | err a no =>
    have HE := Lib.hid he
    clear he
    go_enter Tryz.func9, Tryz.ntmps9
    go_wp2_with (first
      | (go_at_call 10; (with_reducible refine HSH.out.mono ?_); rintro e w1 ⟨rfl, hk1⟩; have H1 := Lib.hid hk1; clear hk1)
      | (go_at_call 12; (with_reducible refine (HENC.out w1 H1.out).mono ?_); rintro e w2 hp; unfold EncPost at hp; rw [HE.out] at hp; obtain ⟨err, rfl, g, rfl, _, _, hk2⟩ := hp; have H2 := Lib.hid (H1.out.trans hk2 (U := fun _ => False) (fun _ _ e => e) (fun _ _ e => e)); clear hk2))
    go_ret
    exact ⟨rfl, H2.out⟩
  | ok L =>
  have h3L := enc_three he
  obtain ⟨_, _, h65, hLe⟩ := enc_ok.1 he
  have hL65 : L.length ≤ 65536 := by rw [hLe]; exact h65
  have HE := Lib.hid he
  have HBY := Lib.hid (enc_bytes he)
  obtain ⟨i5, hi5, hz50, hz51, hz52⟩ := info_parts Tryz.info5
  have HPK := Lib.hid (fun W => pick_any n L.length W hn.1 hn.2 (by omega) (by omega))
  clear he h65 hLe
  go_enter Tryz.func9, Tryz.ntmps9
  go_upto_region 5 with (first
    | (go_at_call 10; (with_reducible refine HSH.out.mono ?_); rintro e w1 ⟨rfl, hk1⟩; have H1 := Lib.hid hk1; clear hk1)
    | (go_at_call 12; (with_reducible refine (HENC.out w1 H1.out).mono ?_); rintro e w2 hp; unfold EncPost at hp; rw [HE.out] at hp; obtain ⟨v2, rfl, hl2, hk2⟩ := hp; have H2 := Lib.hid (And.intro hl2.rdsB (H1.out.trans hk2 (U := fun _ => False) (fun _ _ e => e) (fun _ _ e => e))); clear hl2 hk2))
  obtain ⟨A2, c2, rfl, _, hc2⟩ := id H2.out.1
  obtain ⟨k, hk, hpick⟩ := HPK.out w2
  have HPICK := Lib.hid hpick
  have k0 : (0 : Int) ≤ k := by omega
  have k1 : (k : Int) ≤ c2 := by omega
  have k2 : k ≤ c2 := by omega
  have hdk : ∀ c', Calls Tryz.prog 13 #[.slice A2 k c'] w2 (DecPost (L.take k) w2) → True := fun _ _ => trivial
  have hdk2 : Calls Tryz.prog 13 #[.slice A2 k c2] w2 (DecPost (L.take k) w2) := decode_any _ (H2.out.1.take k (by omega)) (bytes_take HBY.out k) (by rw [List.length_take]; omega) (Utf8Tabs.kept HU.out.1 H2.out.2 (fun h => h) (fun h => h)) (HU.out.2.kept H2.out.2 (fun h => h))
  have HDK := Lib.hid (fun (_ : Nat) => hdk2)
  clear hdk hdk2 hpick HPK HENC HSH hc2
  by_cases h3 : k < 3
  · have hdc : decB (L.take k) = .err 0 52 := by rw [decB_cut HBY.out (fun x hx => (sps_each HS.out x hx).2) HE.out hk, if_pos h3]
    have HDC := Lib.hid hdc
    have b3 : ((k : Int) < 3) = True := eq_true (by omega)
    have b4 : (k < 3) = True := eq_true h3
    clear hdc h3 hk
    go_upto_region 15 with (first
      | (go_at_call 16; (with_reducible refine HPICK.out.mono ?_); rintro e w' ⟨rfl, hw⟩; subst w')
      | (go_at_call 13; (with_reducible refine (HDK.out 0).mono ?_); rintro e w3 hp; unfold DecPost at hp; rw [HDC.out] at hp; obtain ⟨g3, rfl, hg3, hk3⟩ := hp; have H3 := Lib.hid (And.intro hg3 (And.intro hk3 (H2.out.2.trans hk3 (U := fun _ => False) (fun _ _ e => e) (fun _ _ e => e)))); clear hg3 hk3)
      | (go_at_call 20; (with_reducible refine (fault_yes g3 _ _ w3 H3.out.1 (by decide) (HU.out.2.kept H3.out.2.2 (fun h => h))).mono ?_); rintro e w4 ⟨rfl, hk4⟩; have H4 := Lib.hid (H3.out.2.2.trans hk4 (U := fun _ => False) (fun _ _ e => e) (fun _ _ e => e)); have H42 := Lib.hid (H3.out.2.1.trans hk4 (U := fun _ => False) (fun _ _ e => e) (fun _ _ e => e)); clear hk4))
    clear HPICK HDK HDC H3 b3 b4
    by_cases hz : M.length = 0
    · have z1 : ((M.length : Int) == 0) = true := by rw [hz]; rfl
      have z2 : ((M.length : Int) = 0) = True := eq_true (by omega)
      have z3 : (M.length = 0) = True := eq_true hz
      clear hz
      go_wp2_with fail
      go_ret
      exact ⟨rfl, H4.out⟩
    have z1 : ((M.length : Int) == 0) = false := by rw [beq_eq_false_iff_ne]; omega
    have z2 : ((M.length : Int) = 0) = False := eq_false (by omega)
    have z3 : (M.length = 0) = False := eq_false hz
    by_cases hb : 65537 < M.length
    · have y1 : ((65537 : Int) < M.length) = True := eq_true (by omega)
      have y2 : (65537 < M.length) = True := eq_true hb
      have y3 : (65537 : Int) ≤ cm := by omega
      have y4 : 65537 ≤ cm := by omega
      have hm2 : (M.take 65537).length = 65537 := by rw [List.length_take]; omega
      have hm0 : 0 < (M.take 65537).length := by omega
      have hrM2 : RdsB w (.slice Am 65537 cm) (M.take 65537) := HRMM.out.take 65537 (by omega)
      have hbM2 : Bytes (M.take 65537) := bytes_take HBM.out 65537
      obtain ⟨M2, hM2⟩ : ∃ n : Nat, n = 65537 := ⟨_, rfl⟩
      obtain ⟨P, hP⟩ : ∃ P, P = M.take 65537 := ⟨_, rfl⟩
      have hlong : 65536 < L.length + P.length := by rw [hP]; omega
      rw [← hP] at hm2 hm0 hrM2 hbM2
      clear hb hz hP hM2
      have hdr : decB (L ++ P) = .err 0 51 := by
        have := decB_rest (fun x hx => (sps_each HS.out x hx).2) HE.out (more := P) hm0
        rw [this, if_pos hlong]
      have HDR := Lib.hid hdr
      have l6 : (L ++ P).length ≤ 140737488355328 := by rw [List.length_append]; omega
      have HBL : Hid (Bytes (L ++ P)) := Lib.hid (bytes_app HBY.out hbM2)
      have HRM := Lib.hid hrM2
      have hap : ([] : List Int).length + L.length ≤ maxLen := by unfold maxLen; simp; omega
      have hap2 : (([] : List Int).length + L.length) * 1 ≤ 140737488355328 := by simp; omega
      have hap3 : (([] : List Int) ++ L).length + (P).length ≤ maxLen := by unfold maxLen; rw [List.nil_append]; omega
      have hap4 : ((([] : List Int) ++ L).length + (P).length) * 1 ≤ 140737488355328 := by rw [List.nil_append]; omega
      have g1 : (65536 < (L.length : Int) + 65537) = True := eq_true (by omega)
      have g2 : IntKind.i64.wrap ((L.length : Int) + 65537) = (L.length : Int) + 65537 := by rw [IntKind.wrap_i64]; omega
      clear hdr hrM2 hbM2 hlong
      go_upto_region 20 with (first
        | (at_builtin; refine wpList_append_reads rfl _ _ 26 rfl w4.heap.size 5 i5 (.int .u8 0) 1 Tryz.underlying26 hi5 hz50 hz51 hz52 rfl (.slice (some ⟨w4.heap.size, 0, none⟩) 0 0) (.slice A2 L.length c2) [] L rfl rfl ((H2.out.1.kept (H42.out.trans (Kept.alloc (fun _ => False) w4 (.cells #[] 5)) (fun _ _ e => e) (fun _ _ e => e))).reads) (own_empty w4 _ _ (Nat.le_refl _)) hap hap2 (by simp) ?_; intro v5 w5 hs5; have k5 : Kept (fun _ => False) w4 w5 := (Kept.alloc (fun _ => False) w4 _).trans hs5.kept (fun _ _ e => e) (fun i hi e => by simp [Value.ownBlock] at e; omega); have b5 : w4.heap.size ≤ w5.heap.size := k5.size; have HS5 := Lib.hid (And.intro hs5 k5); have ho5 := hs5.own; clear hs5 k5)
        | (at_builtin; refine wpList_append_reads rfl _ _ 26 rfl w4.heap.size 5 i5 (.int .u8 0) 1 Tryz.underlying26 hi5 hz50 hz51 hz52 rfl v5 (.slice Am 65537 cm) ([] ++ L) (P) rfl rfl ((HRM.out.kept (H4.out.trans HS5.out.2 (fun _ _ e => e) (fun _ _ e => e))).reads) ho5 hap3 hap4 b5 ?_; intro v6 w6 hs6; have hst := HS5.out.1.trans hs6; have k6 : Kept (fun _ => False) w4 w6 := (Kept.alloc (fun _ => False) w4 _).trans hst.kept (fun _ _ e => e) (fun i hi e => by simp [Value.ownBlock] at e; omega); have kw6 := H4.out.trans k6 (U := fun _ => False) (fun _ _ e => e) (fun _ _ e => e); have r6 : RdsB w6 v6 (L ++ P) := (Lies.of_own hs6.own).rdsB; have hd6 := decode_any v6 r6 HBL.out l6 (Utf8Tabs.kept HU.out.1 kw6 (fun h => h) (fun h => h)) (HU.out.2.kept kw6 (fun h => h)); have HD6 := Lib.hid (And.intro hd6 kw6); clear hs6 hst k6 kw6 r6 hd6 ho5)
        | (go_at_call 13; (with_reducible refine HD6.out.1.mono ?_); rintro e w7 hp; unfold DecPost at hp; rw [HDR.out] at hp; obtain ⟨g7, rfl, hg7, hk7⟩ := hp; have H7 := Lib.hid (And.intro hg7 (HD6.out.2.trans hk7 (U := fun _ => False) (fun _ _ e => e) (fun _ _ e => e))); clear hg7 hk7))
      go_wp2_with (go_at_call 20; (with_reducible refine (fault_yes g7 _ _ w7 H7.out.1 (by decide) (HU.out.2.kept H7.out.2 (fun h => h))).mono ?_); rintro e w8 ⟨rfl, hk8⟩; have H8 := Lib.hid (H7.out.2.trans hk8 (U := fun _ => False) (fun _ _ e => e) (fun _ _ e => e)); clear hk8)
      go_ret
      exact ⟨rfl, H8.out⟩
    have y1 : ((65537 : Int) < M.length) = False := eq_false (by omega)
    have y2 : (65537 < M.length) = False := eq_false hb
    have hm0 : 0 < M.length := by omega
    have hrM2 := HRMM.out
    have hbM2 := HBM.out
    have hm2 : M.length ≤ 65537 := by omega
    by_cases hlong : 65536 < L.length + M.length
    · clear hb hz
      have hdr : decB (L ++ M) = .err 0 51 := by
        have := decB_rest (fun x hx => (sps_each HS.out x hx).2) HE.out (more := M) hm0
        rw [this, if_pos hlong]
      have HDR := Lib.hid hdr
      have l6 : (L ++ M).length ≤ 140737488355328 := by rw [List.length_append]; omega
      have HBL : Hid (Bytes (L ++ M)) := Lib.hid (bytes_app HBY.out hbM2)
      have HRM := Lib.hid hrM2
      have hap : ([] : List Int).length + L.length ≤ maxLen := by unfold maxLen; simp; omega
      have hap2 : (([] : List Int).length + L.length) * 1 ≤ 140737488355328 := by simp; omega
      have hap3 : (([] : List Int) ++ L).length + (M).length ≤ maxLen := by unfold maxLen; rw [List.nil_append]; omega
      have hap4 : ((([] : List Int) ++ L).length + (M).length) * 1 ≤ 140737488355328 := by rw [List.nil_append]; omega
      have g1 : (65536 < (L.length : Int) + (M.length : Int)) = True := eq_true (by omega)
      have g2 : IntKind.i64.wrap ((L.length : Int) + (M.length : Int)) = (L.length : Int) + (M.length : Int) := by rw [IntKind.wrap_i64]; omega
      clear hdr hrM2 hbM2 hlong
      go_upto_region 20 with (first
        | (at_builtin; refine wpList_append_reads rfl _ _ 26 rfl w4.heap.size 5 i5 (.int .u8 0) 1 Tryz.underlying26 hi5 hz50 hz51 hz52 rfl (.slice (some ⟨w4.heap.size, 0, none⟩) 0 0) (.slice A2 L.length c2) [] L rfl rfl ((H2.out.1.kept (H42.out.trans (Kept.alloc (fun _ => False) w4 (.cells #[] 5)) (fun _ _ e => e) (fun _ _ e => e))).reads) (own_empty w4 _ _ (Nat.le_refl _)) hap hap2 (by simp) ?_; intro v5 w5 hs5; have k5 : Kept (fun _ => False) w4 w5 := (Kept.alloc (fun _ => False) w4 _).trans hs5.kept (fun _ _ e => e) (fun i hi e => by simp [Value.ownBlock] at e; omega); have b5 : w4.heap.size ≤ w5.heap.size := k5.size; have HS5 := Lib.hid (And.intro hs5 k5); have ho5 := hs5.own; clear hs5 k5)
        | (at_builtin; refine wpList_append_reads rfl _ _ 26 rfl w4.heap.size 5 i5 (.int .u8 0) 1 Tryz.underlying26 hi5 hz50 hz51 hz52 rfl v5 (.slice Am M.length cm) ([] ++ L) (M) rfl rfl ((HRM.out.kept (H4.out.trans HS5.out.2 (fun _ _ e => e) (fun _ _ e => e))).reads) ho5 hap3 hap4 b5 ?_; intro v6 w6 hs6; have hst := HS5.out.1.trans hs6; have k6 : Kept (fun _ => False) w4 w6 := (Kept.alloc (fun _ => False) w4 _).trans hst.kept (fun _ _ e => e) (fun i hi e => by simp [Value.ownBlock] at e; omega); have kw6 := H4.out.trans k6 (U := fun _ => False) (fun _ _ e => e) (fun _ _ e => e); have r6 : RdsB w6 v6 (L ++ M) := (Lies.of_own hs6.own).rdsB; have hd6 := decode_any v6 r6 HBL.out l6 (Utf8Tabs.kept HU.out.1 kw6 (fun h => h) (fun h => h)) (HU.out.2.kept kw6 (fun h => h)); have HD6 := Lib.hid (And.intro hd6 kw6); clear hs6 hst k6 kw6 r6 hd6 ho5)
        | (go_at_call 13; (with_reducible refine HD6.out.1.mono ?_); rintro e w7 hp; unfold DecPost at hp; rw [HDR.out] at hp; obtain ⟨g7, rfl, hg7, hk7⟩ := hp; have H7 := Lib.hid (And.intro hg7 (HD6.out.2.trans hk7 (U := fun _ => False) (fun _ _ e => e) (fun _ _ e => e))); clear hg7 hk7))
      go_wp2_with (go_at_call 20; (with_reducible refine (fault_yes g7 _ _ w7 H7.out.1 (by decide) (HU.out.2.kept H7.out.2 (fun h => h))).mono ?_); rintro e w8 ⟨rfl, hk8⟩; have H8 := Lib.hid (H7.out.2.trans hk8 (U := fun _ => False) (fun _ _ e => e) (fun _ _ e => e)); clear hk8)
      go_ret
      exact ⟨rfl, H8.out⟩
    · clear hb hz
      have hdr : decB (L ++ M) = .err L.length 15 := by
        have := decB_rest (fun x hx => (sps_each HS.out x hx).2) HE.out (more := M) hm0
        rw [this, if_neg hlong]
      have HDR := Lib.hid hdr
      have l6 : (L ++ M).length ≤ 140737488355328 := by rw [List.length_append]; omega
      have HBL : Hid (Bytes (L ++ M)) := Lib.hid (bytes_app HBY.out hbM2)
      have HRM := Lib.hid hrM2
      have hap : ([] : List Int).length + L.length ≤ maxLen := by unfold maxLen; simp; omega
      have hap2 : (([] : List Int).length + L.length) * 1 ≤ 140737488355328 := by simp; omega
      have hap3 : (([] : List Int) ++ L).length + (M).length ≤ maxLen := by unfold maxLen; rw [List.nil_append]; omega
      have hap4 : ((([] : List Int) ++ L).length + (M).length) * 1 ≤ 140737488355328 := by rw [List.nil_append]; omega
      have g1 : (65536 < (L.length : Int) + (M.length : Int)) = False := eq_false (by omega)
      have g2 : IntKind.i64.wrap ((L.length : Int) + (M.length : Int)) = (L.length : Int) + (M.length : Int) := by rw [IntKind.wrap_i64]; omega
      clear hdr hrM2 hbM2 hlong
      go_upto_region 20 with (first
        | (at_builtin; refine wpList_append_reads rfl _ _ 26 rfl w4.heap.size 5 i5 (.int .u8 0) 1 Tryz.underlying26 hi5 hz50 hz51 hz52 rfl (.slice (some ⟨w4.heap.size, 0, none⟩) 0 0) (.slice A2 L.length c2) [] L rfl rfl ((H2.out.1.kept (H42.out.trans (Kept.alloc (fun _ => False) w4 (.cells #[] 5)) (fun _ _ e => e) (fun _ _ e => e))).reads) (own_empty w4 _ _ (Nat.le_refl _)) hap hap2 (by simp) ?_; intro v5 w5 hs5; have k5 : Kept (fun _ => False) w4 w5 := (Kept.alloc (fun _ => False) w4 _).trans hs5.kept (fun _ _ e => e) (fun i hi e => by simp [Value.ownBlock] at e; omega); have b5 : w4.heap.size ≤ w5.heap.size := k5.size; have HS5 := Lib.hid (And.intro hs5 k5); have ho5 := hs5.own; clear hs5 k5)
        | (at_builtin; refine wpList_append_reads rfl _ _ 26 rfl w4.heap.size 5 i5 (.int .u8 0) 1 Tryz.underlying26 hi5 hz50 hz51 hz52 rfl v5 (.slice Am M.length cm) ([] ++ L) (M) rfl rfl ((HRM.out.kept (H4.out.trans HS5.out.2 (fun _ _ e => e) (fun _ _ e => e))).reads) ho5 hap3 hap4 b5 ?_; intro v6 w6 hs6; have hst := HS5.out.1.trans hs6; have k6 : Kept (fun _ => False) w4 w6 := (Kept.alloc (fun _ => False) w4 _).trans hst.kept (fun _ _ e => e) (fun i hi e => by simp [Value.ownBlock] at e; omega); have kw6 := H4.out.trans k6 (U := fun _ => False) (fun _ _ e => e) (fun _ _ e => e); have r6 : RdsB w6 v6 (L ++ M) := (Lies.of_own hs6.own).rdsB; have hd6 := decode_any v6 r6 HBL.out l6 (Utf8Tabs.kept HU.out.1 kw6 (fun h => h) (fun h => h)) (HU.out.2.kept kw6 (fun h => h)); have HD6 := Lib.hid (And.intro hd6 kw6); clear hs6 hst k6 kw6 r6 hd6 ho5)
        | (go_at_call 13; (with_reducible refine HD6.out.1.mono ?_); rintro e w7 hp; unfold DecPost at hp; rw [HDR.out] at hp; obtain ⟨g7, rfl, hg7, hk7⟩ := hp; have H7 := Lib.hid (And.intro hg7 (HD6.out.2.trans hk7 (U := fun _ => False) (fun _ _ e => e) (fun _ _ e => e))); clear hg7 hk7))
      go_wp2_with (go_at_call 20; (with_reducible refine (fault_yes g7 _ _ w7 H7.out.1 (by decide) (HU.out.2.kept H7.out.2 (fun h => h))).mono ?_); rintro e w8 ⟨rfl, hk8⟩; have H8 := Lib.hid (H7.out.2.trans hk8 (U := fun _ => False) (fun _ _ e => e) (fun _ _ e => e)); clear hk8)
      go_ret
      exact ⟨rfl, H8.out⟩
  · have hdc : decB (L.take k) = .err k 11 := by rw [decB_cut HBY.out (fun x hx => (sps_each HS.out x hx).2) HE.out hk, if_neg h3]
    have HDC := Lib.hid hdc
    have b3 : ((k : Int) < 3) = False := eq_false (by omega)
    have b4 : (k < 3) = False := eq_false h3
    clear hdc h3 hk
    go_upto_region 15 with (first
      | (go_at_call 16; (with_reducible refine HPICK.out.mono ?_); rintro e w' ⟨rfl, hw⟩; subst w')
      | (go_at_call 13; (with_reducible refine (HDK.out 0).mono ?_); rintro e w3 hp; unfold DecPost at hp; rw [HDC.out] at hp; obtain ⟨g3, rfl, hg3, hk3⟩ := hp; have H3 := Lib.hid (And.intro hg3 (And.intro hk3 (H2.out.2.trans hk3 (U := fun _ => False) (fun _ _ e => e) (fun _ _ e => e)))); clear hg3 hk3)
      | (go_at_call 20; (with_reducible refine (fault_yes g3 _ _ w3 H3.out.1 (by decide) (HU.out.2.kept H3.out.2.2 (fun h => h))).mono ?_); rintro e w4 ⟨rfl, hk4⟩; have H4 := Lib.hid (H3.out.2.2.trans hk4 (U := fun _ => False) (fun _ _ e => e) (fun _ _ e => e)); have H42 := Lib.hid (H3.out.2.1.trans hk4 (U := fun _ => False) (fun _ _ e => e) (fun _ _ e => e)); clear hk4))
    clear HPICK HDK HDC H3 b3 b4
    by_cases hz : M.length = 0
    · have z1 : ((M.length : Int) == 0) = true := by rw [hz]; rfl
      have z2 : ((M.length : Int) = 0) = True := eq_true (by omega)
      have z3 : (M.length = 0) = True := eq_true hz
      clear hz
      go_wp2_with fail
      go_ret
      exact ⟨rfl, H4.out⟩
    have z1 : ((M.length : Int) == 0) = false := by rw [beq_eq_false_iff_ne]; omega
    have z2 : ((M.length : Int) = 0) = False := eq_false (by omega)
    have z3 : (M.length = 0) = False := eq_false hz
    by_cases hb : 65537 < M.length
    · have y1 : ((65537 : Int) < M.length) = True := eq_true (by omega)
      have y2 : (65537 < M.length) = True := eq_true hb
      have y3 : (65537 : Int) ≤ cm := by omega
      have y4 : 65537 ≤ cm := by omega
      have hm2 : (M.take 65537).length = 65537 := by rw [List.length_take]; omega
      have hm0 : 0 < (M.take 65537).length := by omega
      have hrM2 : RdsB w (.slice Am 65537 cm) (M.take 65537) := HRMM.out.take 65537 (by omega)
      have hbM2 : Bytes (M.take 65537) := bytes_take HBM.out 65537
      obtain ⟨M2, hM2⟩ : ∃ n : Nat, n = 65537 := ⟨_, rfl⟩
      obtain ⟨P, hP⟩ : ∃ P, P = M.take 65537 := ⟨_, rfl⟩
      have hlong : 65536 < L.length + P.length := by rw [hP]; omega
      rw [← hP] at hm2 hm0 hrM2 hbM2
      clear hb hz hP hM2
      have hdr : decB (L ++ P) = .err 0 51 := by
        have := decB_rest (fun x hx => (sps_each HS.out x hx).2) HE.out (more := P) hm0
        rw [this, if_pos hlong]
      have HDR := Lib.hid hdr
      have l6 : (L ++ P).length ≤ 140737488355328 := by rw [List.length_append]; omega
      have HBL : Hid (Bytes (L ++ P)) := Lib.hid (bytes_app HBY.out hbM2)
      have HRM := Lib.hid hrM2
      have hap : ([] : List Int).length + L.length ≤ maxLen := by unfold maxLen; simp; omega
      have hap2 : (([] : List Int).length + L.length) * 1 ≤ 140737488355328 := by simp; omega
      have hap3 : (([] : List Int) ++ L).length + (P).length ≤ maxLen := by unfold maxLen; rw [List.nil_append]; omega
      have hap4 : ((([] : List Int) ++ L).length + (P).length) * 1 ≤ 140737488355328 := by rw [List.nil_append]; omega
      have g1 : (65536 < (L.length : Int) + 65537) = True := eq_true (by omega)
      have g2 : IntKind.i64.wrap ((L.length : Int) + 65537) = (L.length : Int) + 65537 := by rw [IntKind.wrap_i64]; omega
      clear hdr hrM2 hbM2 hlong
      go_upto_region 20 with (first
        | (at_builtin; refine wpList_append_reads rfl _ _ 26 rfl w4.heap.size 5 i5 (.int .u8 0) 1 Tryz.underlying26 hi5 hz50 hz51 hz52 rfl (.slice (some ⟨w4.heap.size, 0, none⟩) 0 0) (.slice A2 L.length c2) [] L rfl rfl ((H2.out.1.kept (H42.out.trans (Kept.alloc (fun _ => False) w4 (.cells #[] 5)) (fun _ _ e => e) (fun _ _ e => e))).reads) (own_empty w4 _ _ (Nat.le_refl _)) hap hap2 (by simp) ?_; intro v5 w5 hs5; have k5 : Kept (fun _ => False) w4 w5 := (Kept.alloc (fun _ => False) w4 _).trans hs5.kept (fun _ _ e => e) (fun i hi e => by simp [Value.ownBlock] at e; omega); have b5 : w4.heap.size ≤ w5.heap.size := k5.size; have HS5 := Lib.hid (And.intro hs5 k5); have ho5 := hs5.own; clear hs5 k5)
        | (at_builtin; refine wpList_append_reads rfl _ _ 26 rfl w4.heap.size 5 i5 (.int .u8 0) 1 Tryz.underlying26 hi5 hz50 hz51 hz52 rfl v5 (.slice Am 65537 cm) ([] ++ L) (P) rfl rfl ((HRM.out.kept (H4.out.trans HS5.out.2 (fun _ _ e => e) (fun _ _ e => e))).reads) ho5 hap3 hap4 b5 ?_; intro v6 w6 hs6; have hst := HS5.out.1.trans hs6; have k6 : Kept (fun _ => False) w4 w6 := (Kept.alloc (fun _ => False) w4 _).trans hst.kept (fun _ _ e => e) (fun i hi e => by simp [Value.ownBlock] at e; omega); have kw6 := H4.out.trans k6 (U := fun _ => False) (fun _ _ e => e) (fun _ _ e => e); have r6 : RdsB w6 v6 (L ++ P) := (Lies.of_own hs6.own).rdsB; have hd6 := decode_any v6 r6 HBL.out l6 (Utf8Tabs.kept HU.out.1 kw6 (fun h => h) (fun h => h)) (HU.out.2.kept kw6 (fun h => h)); have HD6 := Lib.hid (And.intro hd6 kw6); clear hs6 hst k6 kw6 r6 hd6 ho5)
        | (go_at_call 13; (with_reducible refine HD6.out.1.mono ?_); rintro e w7 hp; unfold DecPost at hp; rw [HDR.out] at hp; obtain ⟨g7, rfl, hg7, hk7⟩ := hp; have H7 := Lib.hid (And.intro hg7 (HD6.out.2.trans hk7 (U := fun _ => False) (fun _ _ e => e) (fun _ _ e => e))); clear hg7 hk7))
      go_wp2_with (go_at_call 20; (with_reducible refine (fault_yes g7 _ _ w7 H7.out.1 (by decide) (HU.out.2.kept H7.out.2 (fun h => h))).mono ?_); rintro e w8 ⟨rfl, hk8⟩; have H8 := Lib.hid (H7.out.2.trans hk8 (U := fun _ => False) (fun _ _ e => e) (fun _ _ e => e)); clear hk8)
      go_ret
      exact ⟨rfl, H8.out⟩
    have y1 : ((65537 : Int) < M.length) = False := eq_false (by omega)
    have y2 : (65537 < M.length) = False := eq_false hb
    have hm0 : 0 < M.length := by omega
    have hrM2 := HRMM.out
    have hbM2 := HBM.out
    have hm2 : M.length ≤ 65537 := by omega
    by_cases hlong : 65536 < L.length + M.length
    · clear hb hz
      have hdr : decB (L ++ M) = .err 0 51 := by
        have := decB_rest (fun x hx => (sps_each HS.out x hx).2) HE.out (more := M) hm0
        rw [this, if_pos hlong]
      have HDR := Lib.hid hdr
      have l6 : (L ++ M).length ≤ 140737488355328 := by rw [List.length_append]; omega
      have HBL : Hid (Bytes (L ++ M)) := Lib.hid (bytes_app HBY.out hbM2)
      have HRM := Lib.hid hrM2
      have hap : ([] : List Int).length + L.length ≤ maxLen := by unfold maxLen; simp; omega
      have hap2 : (([] : List Int).length + L.length) * 1 ≤ 140737488355328 := by simp; omega
      have hap3 : (([] : List Int) ++ L).length + (M).length ≤ maxLen := by unfold maxLen; rw [List.nil_append]; omega
      have hap4 : ((([] : List Int) ++ L).length + (M).length) * 1 ≤ 140737488355328 := by rw [List.nil_append]; omega
      have g1 : (65536 < (L.length : Int) + (M.length : Int)) = True := eq_true (by omega)
      have g2 : IntKind.i64.wrap ((L.length : Int) + (M.length : Int)) = (L.length : Int) + (M.length : Int) := by rw [IntKind.wrap_i64]; omega
      clear hdr hrM2 hbM2 hlong
      go_upto_region 20 with (first
        | (at_builtin; refine wpList_append_reads rfl _ _ 26 rfl w4.heap.size 5 i5 (.int .u8 0) 1 Tryz.underlying26 hi5 hz50 hz51 hz52 rfl (.slice (some ⟨w4.heap.size, 0, none⟩) 0 0) (.slice A2 L.length c2) [] L rfl rfl ((H2.out.1.kept (H42.out.trans (Kept.alloc (fun _ => False) w4 (.cells #[] 5)) (fun _ _ e => e) (fun _ _ e => e))).reads) (own_empty w4 _ _ (Nat.le_refl _)) hap hap2 (by simp) ?_; intro v5 w5 hs5; have k5 : Kept (fun _ => False) w4 w5 := (Kept.alloc (fun _ => False) w4 _).trans hs5.kept (fun _ _ e => e) (fun i hi e => by simp [Value.ownBlock] at e; omega); have b5 : w4.heap.size ≤ w5.heap.size := k5.size; have HS5 := Lib.hid (And.intro hs5 k5); have ho5 := hs5.own; clear hs5 k5)
        | (at_builtin; refine wpList_append_reads rfl _ _ 26 rfl w4.heap.size 5 i5 (.int .u8 0) 1 Tryz.underlying26 hi5 hz50 hz51 hz52 rfl v5 (.slice Am M.length cm) ([] ++ L) (M) rfl rfl ((HRM.out.kept (H4.out.trans HS5.out.2 (fun _ _ e => e) (fun _ _ e => e))).reads) ho5 hap3 hap4 b5 ?_; intro v6 w6 hs6; have hst := HS5.out.1.trans hs6; have k6 : Kept (fun _ => False) w4 w6 := (Kept.alloc (fun _ => False) w4 _).trans hst.kept (fun _ _ e => e) (fun i hi e => by simp [Value.ownBlock] at e; omega); have kw6 := H4.out.trans k6 (U := fun _ => False) (fun _ _ e => e) (fun _ _ e => e); have r6 : RdsB w6 v6 (L ++ M) := (Lies.of_own hs6.own).rdsB; have hd6 := decode_any v6 r6 HBL.out l6 (Utf8Tabs.kept HU.out.1 kw6 (fun h => h) (fun h => h)) (HU.out.2.kept kw6 (fun h => h)); have HD6 := Lib.hid (And.intro hd6 kw6); clear hs6 hst k6 kw6 r6 hd6 ho5)
        | (go_at_call 13; (with_reducible refine HD6.out.1.mono ?_); rintro e w7 hp; unfold DecPost at hp; rw [HDR.out] at hp; obtain ⟨g7, rfl, hg7, hk7⟩ := hp; have H7 := Lib.hid (And.intro hg7 (HD6.out.2.trans hk7 (U := fun _ => False) (fun _ _ e => e) (fun _ _ e => e))); clear hg7 hk7))
      go_wp2_with (go_at_call 20; (with_reducible refine (fault_yes g7 _ _ w7 H7.out.1 (by decide) (HU.out.2.kept H7.out.2 (fun h => h))).mono ?_); rintro e w8 ⟨rfl, hk8⟩; have H8 := Lib.hid (H7.out.2.trans hk8 (U := fun _ => False) (fun _ _ e => e) (fun _ _ e => e)); clear hk8)
      go_ret
      exact ⟨rfl, H8.out⟩
    · clear hb hz
      have hdr : decB (L ++ M) = .err L.length 15 := by
        have := decB_rest (fun x hx => (sps_each HS.out x hx).2) HE.out (more := M) hm0
        rw [this, if_neg hlong]
      have HDR := Lib.hid hdr
      have l6 : (L ++ M).length ≤ 140737488355328 := by rw [List.length_append]; omega
      have HBL : Hid (Bytes (L ++ M)) := Lib.hid (bytes_app HBY.out hbM2)
      have HRM := Lib.hid hrM2
      have hap : ([] : List Int).length + L.length ≤ maxLen := by unfold maxLen; simp; omega
      have hap2 : (([] : List Int).length + L.length) * 1 ≤ 140737488355328 := by simp; omega
      have hap3 : (([] : List Int) ++ L).length + (M).length ≤ maxLen := by unfold maxLen; rw [List.nil_append]; omega
      have hap4 : ((([] : List Int) ++ L).length + (M).length) * 1 ≤ 140737488355328 := by rw [List.nil_append]; omega
      have g1 : (65536 < (L.length : Int) + (M.length : Int)) = False := eq_false (by omega)
      have g2 : IntKind.i64.wrap ((L.length : Int) + (M.length : Int)) = (L.length : Int) + (M.length : Int) := by rw [IntKind.wrap_i64]; omega
      clear hdr hrM2 hbM2 hlong
      go_upto_region 20 with (first
        | (at_builtin; refine wpList_append_reads rfl _ _ 26 rfl w4.heap.size 5 i5 (.int .u8 0) 1 Tryz.underlying26 hi5 hz50 hz51 hz52 rfl (.slice (some ⟨w4.heap.size, 0, none⟩) 0 0) (.slice A2 L.length c2) [] L rfl rfl ((H2.out.1.kept (H42.out.trans (Kept.alloc (fun _ => False) w4 (.cells #[] 5)) (fun _ _ e => e) (fun _ _ e => e))).reads) (own_empty w4 _ _ (Nat.le_refl _)) hap hap2 (by simp) ?_; intro v5 w5 hs5; have k5 : Kept (fun _ => False) w4 w5 := (Kept.alloc (fun _ => False) w4 _).trans hs5.kept (fun _ _ e => e) (fun i hi e => by simp [Value.ownBlock] at e; omega); have b5 : w4.heap.size ≤ w5.heap.size := k5.size; have HS5 := Lib.hid (And.intro hs5 k5); have ho5 := hs5.own; clear hs5 k5)
        | (at_builtin; refine wpList_append_reads rfl _ _ 26 rfl w4.heap.size 5 i5 (.int .u8 0) 1 Tryz.underlying26 hi5 hz50 hz51 hz52 rfl v5 (.slice Am M.length cm) ([] ++ L) (M) rfl rfl ((HRM.out.kept (H4.out.trans HS5.out.2 (fun _ _ e => e) (fun _ _ e => e))).reads) ho5 hap3 hap4 b5 ?_; intro v6 w6 hs6; have hst := HS5.out.1.trans hs6; have k6 : Kept (fun _ => False) w4 w6 := (Kept.alloc (fun _ => False) w4 _).trans hst.kept (fun _ _ e => e) (fun i hi e => by simp [Value.ownBlock] at e; omega); have kw6 := H4.out.trans k6 (U := fun _ => False) (fun _ _ e => e) (fun _ _ e => e); have r6 : RdsB w6 v6 (L ++ M) := (Lies.of_own hs6.own).rdsB; have hd6 := decode_any v6 r6 HBL.out l6 (Utf8Tabs.kept HU.out.1 kw6 (fun h => h) (fun h => h)) (HU.out.2.kept kw6 (fun h => h)); have HD6 := Lib.hid (And.intro hd6 kw6); clear hs6 hst k6 kw6 r6 hd6 ho5)
        | (go_at_call 13; (with_reducible refine HD6.out.1.mono ?_); rintro e w7 hp; unfold DecPost at hp; rw [HDR.out] at hp; obtain ⟨g7, rfl, hg7, hk7⟩ := hp; have H7 := Lib.hid (And.intro hg7 (HD6.out.2.trans hk7 (U := fun _ => False) (fun _ _ e => e) (fun _ _ e => e))); clear hg7 hk7))
      go_wp2_with (go_at_call 20; (with_reducible refine (fault_yes g7 _ _ w7 H7.out.1 (by decide) (HU.out.2.kept H7.out.2 (fun h => h))).mono ?_); rintro e w8 ⟨rfl, hk8⟩; have H8 := Lib.hid (H7.out.2.trans hk8 (U := fun _ => False) (fun _ _ e => e) (fun _ _ e => e)); clear hk8)
      go_ret
      exact ⟨rfl, H8.out⟩
end Go.Proofs.YtlcbgklealipoaaGreatDoor
