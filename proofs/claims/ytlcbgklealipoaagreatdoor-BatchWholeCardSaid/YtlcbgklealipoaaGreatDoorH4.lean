/- BatchLonger (the walk). -/
import Derived.Test.YtlcbgklealipoaaGreatDoorH3
namespace Go.Proofs.YtlcbgklealipoaaGreatDoor
open Go Go.RowKit
set_option linter.unusedVariables false
set_option linter.unusedSimpArgs false

theorem pick_any (c : Int) (n : Nat) (w : World) (h0 : -9223372036854775808 ≤ c) (h1 : c ≤ 9223372036854775807) (hn : 0 < n) (hn1 : n ≤ 9223372036854775807) :
    ∃ k : Nat, k < n ∧ Calls Tryz.prog 16 #[.int .i64 c, .int .i64 n] w fun e w' => e = .returned (.int .i64 k) ∧ w' = w := by
  by_cases hc : c < 0
  · obtain ⟨m, hm⟩ : ∃ m : Nat, (m : Int) = -(c + 1) := ⟨(-(c + 1)).toNat, by omega⟩
    refine ⟨m % n, Nat.mod_lt _ hn, ?_⟩
    have e1 : IntKind.i64.wrap (c + 1) = c + 1 := by rw [IntKind.wrap_i64]; omega
    have e2 : IntKind.i64.wrap (-(c + 1)) = (m : Int) := by rw [IntKind.wrap_i64]; omega
    have n0 : ¬ (n : Int) = 0 := by omega
    have b0 : (c < 0) = True := eq_true hc
    have HM := Lib.hid hm
    clear hm hc
    go_enter Tryz.func16, Tryz.ntmps16
    go_wp2_with fail
    go_ret
    exact ⟨ret_eq (by simp), rfl⟩
  · obtain ⟨m, rfl⟩ : ∃ m : Nat, c = (m : Int) := ⟨c.toNat, by omega⟩
    refine ⟨m % n, Nat.mod_lt _ hn, ?_⟩
    have n0 : ¬ (n : Int) = 0 := by omega
    have b0 : ((m : Int) < 0) = False := eq_false hc
    clear hc
    go_enter Tryz.func16, Tryz.ntmps16
    go_wp2_with fail
    go_ret
    exact ⟨ret_eq (by simp), rfl⟩
set_option maxHeartbeats 4000000 in
set_option maxRecDepth 100000 in
theorem batchLonger_any (ss : List Spn) (v : Value) (n : Int) (w : World) (hs : SpsReads w v ss) (hl : ss.length ≤ 9223372036854775807) (hcap : ∃ A c, v = .slice A ss.length c ∧ ss.length ≤ c ∧ c ≤ 9223372036854775807) (hn : -9223372036854775808 ≤ n ∧ n ≤ 9223372036854775807) (hU : Lib.Utf8Tabs 1 2 w) (hnd : Handle w) :
    Calls Tryz.prog 6 #[v, .int .i64 n] w (TruePost w) := by
  obtain ⟨A0, c0, rfl, hcp, hc63⟩ := hcap
  have HU := Lib.hid (And.intro hU hnd)
  have HS := Lib.hid hs
  have HSH := Lib.hid (shown_any w hU hnd)
  clear hU hnd hs
  have henc : ∀ w1, Kept (fun _ => False) w w1 → Calls Tryz.prog 12 #[.slice A0 ss.length c0] w1 (EncPost ss w1) := fun w1 hk => encode_any ss _ w1 (HS.out.kept hk) hl (Utf8Tabs.kept HU.out.1 hk (fun h => h) (fun h => h))
  have HENC := Lib.hid henc
  clear henc
  cases he : encR ss with
  | err a no =>
    have HE := Lib.hid he
    clear he
    go_enter Tryz.func6, Tryz.ntmps6
    go_wp2_with (first
      | (go_at_call 10; (with_reducible refine HSH.out.mono ?_); rintro e w1 ⟨rfl, hk1⟩; have H1 := Lib.hid hk1; clear hk1)
      | (go_at_call 12; (with_reducible refine (HENC.out w1 H1.out).mono ?_); rintro e w2 hp; unfold EncPost at hp; rw [HE.out] at hp; obtain ⟨err, rfl, g, rfl, _, _, hk2⟩ := hp; have H2 := Lib.hid (H1.out.trans hk2 (U := fun _ => False) (fun _ _ e => e) (fun _ _ e => e)); clear hk2))
    go_ret
    exact ⟨rfl, H2.out⟩
  | ok L =>
    have HE := Lib.hid he
    by_cases hz : ss.length = 0
    · have z1 : ((ss.length : Int) == 0) = true := by rw [hz]; rfl
      have z2 : ((ss.length : Int) = 0) = True := eq_true (by omega)
      have z3 : (ss.length = 0) = True := eq_true hz
      clear he hz
      go_enter Tryz.func6, Tryz.ntmps6
      go_wp2_with (first
        | (go_at_call 10; (with_reducible refine HSH.out.mono ?_); rintro e w1 ⟨rfl, hk1⟩; have H1 := Lib.hid hk1; clear hk1)
        | (go_at_call 12; (with_reducible refine (HENC.out w1 H1.out).mono ?_); rintro e w2 hp; unfold EncPost at hp; rw [HE.out] at hp; obtain ⟨v2, rfl, hl2, hk2⟩ := hp; have H2 := Lib.hid (H1.out.trans hk2 (U := fun _ => False) (fun _ _ e => e) (fun _ _ e => e)); clear hl2 hk2))
      go_ret
      exact ⟨rfl, H2.out⟩
    have z1 : ((ss.length : Int) == 0) = false := by rw [beq_eq_false_iff_ne]; omega
    have z2 : ((ss.length : Int) = 0) = False := eq_false (by omega)
    have z3 : (ss.length = 0) = False := eq_false hz
    obtain ⟨k, hk, hpick⟩ := pick_any n ss.length w hn.1 hn.2 (by omega) hl
    have hpk : ∀ W, ∃ k : Nat, k < ss.length ∧ Calls Tryz.prog 16 #[.int .i64 n, .int .i64 ss.length] W fun e w' => e = .returned (.int .i64 k) ∧ w' = W := fun W => pick_any n ss.length W hn.1 hn.2 (by omega) hl
    have HPK := Lib.hid hpk
    have HZ := Lib.hid hz
    clear he hz hk hpick hpk
    go_enter Tryz.func6, Tryz.ntmps6
    go_upto_region 5 with (first
      | (go_at_call 10; (with_reducible refine HSH.out.mono ?_); rintro e w1 ⟨rfl, hk1⟩; have H1 := Lib.hid hk1; clear hk1)
      | (go_at_call 12; (with_reducible refine (HENC.out w1 H1.out).mono ?_); rintro e w2 hp; unfold EncPost at hp; rw [HE.out] at hp; obtain ⟨v2, rfl, hl2, hk2⟩ := hp; have H2 := Lib.hid (And.intro hl2.rdsB (H1.out.trans hk2 (U := fun _ => False) (fun _ _ e => e) (fun _ _ e => e))); clear hl2 hk2))
    obtain ⟨A2, c2, rfl, _, _⟩ := id H2.out.1
    obtain ⟨k, hk, hpick⟩ := HPK.out w2
    obtain ⟨M, hM, hML⟩ := enc_take HE.out hk
    have HM := Lib.hid hM
    have k0 : (0 : Int) ≤ k := by omega
    have k1 : (k : Int) ≤ c0 := by omega
    have k2 : k ≤ c0 := by omega
    have m1 : ((M.length : Int) < L.length) = True := eq_true (by omega)
    have m2 : (M.length < L.length) = True := eq_true hML
    have henc2 : ∀ c', Calls Tryz.prog 12 #[.slice A0 k c'] w2 (EncPost (ss.take k) w2) := fun c' => encode_any (ss.take k) _ w2 ((HS.out.take k (by omega) c').kept H2.out.2) (by rw [List.length_take]; omega) (Utf8Tabs.kept HU.out.1 H2.out.2 (fun h => h) (fun h => h))
    have HENC2 := Lib.hid henc2
    have HPICK := Lib.hid hpick
    clear hM hML henc2 hpick hk
    go_wp2_with (first
      | (go_at_call 16; (with_reducible refine HPICK.out.mono ?_); rintro e w' ⟨rfl, hw⟩; subst w')
      | (go_at_call 12; (with_reducible refine (HENC2.out _).mono ?_); rintro e w3 hp; unfold EncPost at hp; rw [HM.out] at hp; obtain ⟨v3, rfl, hl3, hk3⟩ := hp; obtain ⟨A3, c3, rfl, _, _⟩ := hl3.rdsB; have H3 := Lib.hid (H2.out.2.trans hk3 (U := fun _ => False) (fun _ _ e => e) (fun _ _ e => e)); clear hl3 hk3))
    go_ret
    exact ⟨rfl, H3.out⟩
end Go.Proofs.YtlcbgklealipoaaGreatDoor
