/- BatchBack (the walk). -/
import Derived.Test.YtlcbgklealipoaaGreatDoorZL
namespace Go.Proofs.YtlcbgklealipoaaGreatDoor
open Go Go.RowKit
set_option linter.unusedVariables false
set_option linter.unusedSimpArgs false

theorem sps_each {w : World} {v : Value} {ss : List Spn} (h : SpsReads w v ss) : ∀ x ∈ ss, Sized x ∧ Fits x := by
  intro x hx
  obtain ⟨A, c, rfl, hc⟩ := h
  obtain ⟨i, hi⟩ := List.getElem?_of_mem hx
  obtain ⟨b, off, rfl, hq⟩ := hc (List.length_pos_of_mem hx)
  obtain ⟨lv, av, ev, _, _, h1, h2⟩ := hq i x hi
  exact ⟨h1, h2⟩
theorem own_sps {B : Nat} {w : World} {v : Value} {q : List LSpn} {ss : List Spn} (hs : SOwn B w v q) (hq : q.map Prod.fst = ss) (he : ∀ x ∈ ss, (Sized x ∧ Fits x) ∧ checkS x = 0) : SpsReads w v ss := by
  subst hq
  refine hs.reads fun y hy => ?_
  obtain ⟨⟨h1, h2⟩, h3⟩ := he y.1 (List.mem_map_of_mem hy)
  have hf := fine_of h3
  exact ⟨h1, h2, hf.links, hf.ats.1, hf.evs.1⟩
theorem sps_slice {w : World} {v : Value} {ss : List Spn} (h : SpsReads w v ss) : ∃ A c, v = .slice A ss.length c := by
  obtain ⟨A, c, e, _⟩ := h
  exact ⟨A, c, e⟩
set_option maxHeartbeats 4000000 in
set_option maxRecDepth 100000 in
theorem batchBack_any (ss : List Spn) (v : Value) (w : World) (hs : SpsReads w v ss) (hl : ss.length ≤ 9223372036854775807) (hU : Lib.Utf8Tabs 1 2 w) (hnd : Handle w) : Calls Tryz.prog 4 #[v] w (TruePost w) := by
  obtain ⟨A0, c0, rfl⟩ := sps_slice hs
  have HU := Lib.hid (And.intro hU hnd)
  have HS := Lib.hid hs
  have HSH := Lib.hid (shown_any w hU hnd)
  clear hU hnd hs
  have henc : ∀ w1, Kept (fun _ => False) w w1 → Calls Tryz.prog 12 #[.slice A0 ss.length c0] w1 (EncPost ss w1) := fun w1 hk => encode_any ss _ w1 (HS.out.kept hk) hl (Utf8Tabs.kept HU.out.1 hk (fun h => h) (fun h => h))
  have HENC := Lib.hid henc
  clear henc
  cases he : encR ss with
  | err a no =>
    have HE := Lib.hid he
    clear he
    go_enter Tryz.func4, Tryz.ntmps4
    go_wp2_with (first
      | (go_at_call 10; (with_reducible refine HSH.out.mono ?_); rintro e w1 ⟨rfl, hk1⟩; have H1 := Lib.hid hk1; clear hk1)
      | (go_at_call 12; (with_reducible refine (HENC.out w1 H1.out).mono ?_); rintro e w2 hp; unfold EncPost at hp; rw [HE.out] at hp; obtain ⟨err, rfl, g, rfl, _, _, hk2⟩ := hp; have H2 := Lib.hid (H1.out.trans hk2 (U := fun _ => False) (fun _ _ e => e) (fun _ _ e => e)); clear hk2))
    go_ret
    exact ⟨rfl, H2.out⟩
  | ok L =>
    obtain ⟨h5, hall, h65, hL⟩ := enc_ok.1 he
    have hdec := decB_back (fun x hx => (sps_each HS.out x hx).2) he
    have hb : Bytes L := enc_bytes he
    have HE := Lib.hid he
    have HD := Lib.hid hdec
    have HALL := Lib.hid (fun x hx => And.intro (sps_each HS.out x hx) (hall x hx))
    have hz : L.length ≤ 65536 := by rw [hL]; exact h65
    have z1 : (L.length : Int) ≤ 65536 := by omega
    clear he hdec hall h65 hL
    go_enter Tryz.func4, Tryz.ntmps4
    go_upto_region 5 with (first
      | (go_at_call 10; (with_reducible refine HSH.out.mono ?_); rintro e w1 ⟨rfl, hk1⟩; have H1 := Lib.hid hk1; clear hk1)
      | (go_at_call 12; (with_reducible refine (HENC.out w1 H1.out).mono ?_); rintro e w2 hp; unfold EncPost at hp; rw [HE.out] at hp; obtain ⟨v2, rfl, hl2, hk2⟩ := hp; have H2 := Lib.hid (And.intro hl2.rdsB (H1.out.trans hk2 (U := fun _ => False) (fun _ _ e => e) (fun _ _ e => e))); clear hl2 hk2))
    obtain ⟨A2, c2, rfl, _, _⟩ := id H2.out.1
    have hd : Calls Tryz.prog 13 #[.slice A2 L.length c2] w2 (DecPost L w2) := decode_any _ H2.out.1 hb (by omega) (Utf8Tabs.kept HU.out.1 H2.out.2 (fun h => h) (fun h => h)) (HU.out.2.kept H2.out.2 (fun h => h))
    have HDEC := Lib.hid hd
    clear hd
    go_upto_region 6 with (go_at_call 13; (with_reducible refine HDEC.out.mono ?_); rintro e w3 hp; unfold DecPost at hp; rw [HD.out] at hp; obtain ⟨v3, q, rfl, hq, hs, hk3⟩ := hp; have H3 := Lib.hid (And.intro (own_sps hs hq HALL.out) (H2.out.2.trans hk3 (U := fun _ => False) (fun _ _ e => e) (fun _ _ e => e))); clear hk3 hs hq)
    have hsm : Calls Tryz.prog 14 #[v3, .slice A0 ss.length c0] w3 (TruePost w3) := sameSpans_any ss v3 _ w3 H3.out.1 (HS.out.kept H3.out.2) hl
    have HSM := Lib.hid hsm
    clear hsm
    go_wp2_with (go_at_call 14; (with_reducible refine HSM.out.mono ?_); rintro e w4 ⟨rfl, hk4⟩; have H4 := Lib.hid (H3.out.2.trans hk4 (U := fun _ => False) (fun _ _ e => e) (fun _ _ e => e)); clear hk4)
    go_ret
    exact ⟨rfl, H4.out⟩
end Go.Proofs.YtlcbgklealipoaaGreatDoor
