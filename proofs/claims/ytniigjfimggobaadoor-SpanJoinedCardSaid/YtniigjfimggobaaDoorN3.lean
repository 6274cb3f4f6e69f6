/- SpanOne: of any bytes: what is read may be, and has just these bytes (the walk). -/
import Derived.Test.YtniigjfimggobaaDoorN2
namespace Go.Proofs.YtniigjfimggobaaDoor
open Go.RowKit
set_option linter.unusedVariables false
set_option linter.unusedSimpArgs false

theorem eightP_lt (L : List Int) (hb : Bytes L) (st : DSt) : (eightP L st).1 < 18446744073709551616 := by
  cases st with
  | bad a no => show (0 : Nat) < _; omega
  | ok n =>
    simp only [eightP]
    cases h : rawR L n 8 with
    | err a no => show (0 : Nat) < _; omega
    | ok p m =>
      show of8 p < _
      unfold rawR at h
      rw [if_neg (by omega)] at h
      split at h
      · cases h
      · injection h with h1 h2
        have hp : Bytes p := by rw [← h1]; exact fun x hx => hb x (List.mem_of_mem_drop (List.mem_of_mem_take hx))
        have hl : p.length ≤ 8 := by rw [← h1, List.length_take]; omega
        have := of8_lt p hp
        exact Nat.lt_of_lt_of_le this (Nat.le_trans (Nat.pow_le_pow_right (by omega) hl) (by decide))
theorem sigP_lt (L : List Int) (st : DSt) : -9223372036854775808 ≤ (sigP L st).1 ∧ (sigP L st).1 < 9223372036854775808 := by
  cases st with
  | bad a no => exact ⟨by show (-9223372036854775808 : Int) ≤ 0; omega, by show (0 : Int) < _; omega⟩
  | ok n =>
    simp only [sigP]
    cases h : numR (L.drop n) 0 0 with
    | ok x k => exact zag_range x (by omega) (by have := numR_lt _ _ _ _ _ h; omega)
    | form => exact ⟨by show (-9223372036854775808 : Int) ≤ 0; omega, by show (0 : Int) < _; omega⟩
    | fin => exact ⟨by show (-9223372036854775808 : Int) ≤ 0; omega, by show (0 : Int) < _; omega⟩
theorem decS_span {L : List Int} {s : Spn} (h : decS L = .ok s) : s = (spnP L).1 := by
  unfold decS at h
  split at h
  · cases h
  · split at h
    · cases h
    · split at h
      · injection h with h; exact h.symm
      · cases h
theorem dec_fits {L : List Int} (hb : Bytes L) {s : Spn} (h : decS L = .ok s) : Fits s := by
  have hs := decS_span h
  have hf := fine_of (dec_one hb h).1
  refine ⟨?_, ?_, ?_, ?_, ?_, by have := hf.kind; omega, by have := hf.st; omega, by have := hf.start; omega, by have := hf.start; omega, fun a ha => ⟨?_, ?_⟩, fun e he => ?_⟩
  · rw [hs]; exact eightP_lt L hb _
  · rw [hs]; exact eightP_lt L hb _
  · rw [hs]; exact eightP_lt L hb _
  · rw [hs]; exact eightP_lt L hb _
  · rw [hs]; intro x hx; obtain ⟨st, rfl⟩ := iterP_mem _ _ _ _ hx; exact eightP_lt L hb _
  · have := valued_ok (hf.ats.2 a ha).2; omega
  · rw [hs] at ha; obtain ⟨st, rfl⟩ := iterP_mem _ _ _ _ ha; exact sigP_lt L _
  · have := hf.evs.2 e he; omega
theorem fine_sized {s : Spn} (hf : Fine s) : Sized s :=
  ⟨by have := plain_size hf.svc; omega, by have := plain_size hf.op; omega, fun a ha => ⟨by have := keyed_size (hf.ats.2 a ha).1; omega, by have := valued_ok (hf.ats.2 a ha).2; omega⟩, fun e he => by have := plain_size (hf.evs.2 e he).2.2; omega⟩
def DecNo (w : World) (e : Ending) (w' : World) : Prop := ∃ g, e = .returned (.tuple #[.agg zcells, .iface 102 (.pointer (some ⟨g, 0, none⟩))]) ∧ Kept (fun _ => False) w w'
theorem dec_no (L : List Int) (v : Value) (w : World) (hr : Reads w v L) (hl : L.length ≤ 140737488355328) (hb : Bytes L) (hU : Lib.Utf8Tabs 0 1 w) (a no : Int) (hd : decS L = .err a no) : Calls Tryd.prog 15 #[v] w (DecNo w) := by
  refine (decode_any v L w hr hl hb hU).mono fun e w' hp => ?_
  unfold DecPost at hp
  rw [hd] at hp
  obtain ⟨g, rfl, _, hk⟩ := hp
  exact ⟨g, rfl, hk⟩
set_option maxHeartbeats 16000000 in
set_option maxRecDepth 100000 in
theorem spanOne_any (L : List Int) (w : World) (hb : Bytes L) (hl : L.length ≤ 140737488351232) (hU : Lib.Utf8Tabs 0 1 w) : Calls Tryd.prog 6 #[.string (strOfNums L)] w (TruePost w) := by
  have HAW := Lib.hid (awake_any w hU)
  have HU := Lib.hid hU
  have HBL := Lib.hid hb
  have hsL : (strOfNums L).size = L.length := strOfNums_size L
  clear hU hb
  rcases hd : decS L with s | ⟨a, no⟩
  case err =>
    have HD := Lib.hid hd
    clear hd
    go_enter Tryd.func6, Tryd.ntmps6
    go_upto_region 2 with (go_at_call 8; (with_reducible refine HAW.out.mono ?_); rintro e w1 ⟨rfl, hk1⟩; have HK1 := Lib.hid hk1; clear hk1)
    obtain ⟨Cp, w2, hcv, hrd, hk2⟩ := bytes_conv (P := Tryd.prog) (src := 9) (dst := 42) (e := 5) w1 L HBL.out Tryd.underlying9 Tryd.underlying42 Tryd.underlying5
    have hkw2 := HK1.out.trans hk2 (U := fun _ => False) (fun _ _ e => e) (fun _ _ e => e)
    have HC := Lib.hid (dec_no L _ w2 hrd (by omega) HBL.out (Utf8Tabs.kept HU.out hkw2 (fun h => h) (fun h => h)) a no HD.out)
    have HK2 := Lib.hid hkw2
    clear hrd hk2 hkw2
    go_upto_region 3 with (first | (go_at_call 15; (with_reducible refine HC.out.mono ?_); rintro e w3 ⟨g, rfl, hk3⟩; have HK3 := Lib.hid (HK2.out.trans hk3 (U := fun _ => False) (fun _ _ e => e) (fun _ _ e => e)); have HN3 := Lib.hid (heap_alloc_new w3 (.cells zcells 33)); clear hk3) | (refine wpList_store33 rfl _ _ rfl w3.heap.size zcells zcells rfl rfl HN3.out rfl rfl zcells_one ?_; intro w4 hb4 hk4; have HV4 := Lib.hid (And.intro hb4 hk4); clear hb4 hk4))
    have hkw4 := (HK3.out.trans (Kept.alloc (fun _ => False) w3 _) (U := fun _ => False) (fun _ _ e => e) (fun _ _ e => e)).trans HV4.out.2 (U := fun _ => False) (fun _ _ e => e) (fun i hi e => by have := HK3.out.size; omega)
    have hsame : Calls Tryd.prog 12 #[.agg zcells, .agg #[.int .u64 0, .int .u64 0, .int .u64 0, .int .u64 0, .slice none 0 0, .string ⟨#[]⟩, .string ⟨#[]⟩, .int .i64 0, .int .i64 0, .int .i64 0, .int .i64 0, .slice none 0 0, .slice none 0 0]] w4 (BoolPost true w4) := by
      have h := same_any zeroS zeroS _ _ _ _ _ _ w4 (bare_reads w4 zeroS rfl rfl rfl) (bare_reads w4 zeroS rfl rfl rfl)
      rw [sameS_yes rfl] at h
      exact h
    have HSA := Lib.hid (And.intro hsame hkw4)
    have HR4 := Lib.hid HV4.out.1
    clear hsame hkw4 HV4
    go_wp2_with (first | (refine wpList_load33 rfl _ rfl w3.heap.size zcells rfl HR4.out rfl ?_) | (go_at_call 12; (with_reducible refine HSA.out.1.mono ?_); rintro e w6 ⟨rfl, hk6⟩; have HK6 := Lib.hid (HSA.out.2.trans hk6 (U := fun _ => False) (fun _ _ e => e) (fun _ _ e => e)); clear hk6))
    go_ret
    exact ⟨rfl, HK6.out⟩
  case ok =>
    have ⟨h0, he⟩ := dec_one HBL.out hd
    have hfit := dec_fits HBL.out hd
    have hsz := fine_sized (fine_of h0)
    have hlen := enc_len h0 hfit
    have n0 : 0 < L.length := by rw [← he]; omega
    have HD := Lib.hid hd
    have HS := Lib.hid (And.intro h0 (And.intro he (And.intro hfit hsz)))
    clear hd h0 he hfit hsz hlen
    go_enter Tryd.func6, Tryd.ntmps6
    go_upto_region 2 with (go_at_call 8; (with_reducible refine HAW.out.mono ?_); rintro e w1 ⟨rfl, hk1⟩; have HK1 := Lib.hid hk1; clear hk1)
    obtain ⟨Cp, w2, hcv, hrd, hk2⟩ := bytes_conv (P := Tryd.prog) (src := 9) (dst := 42) (e := 5) w1 L HBL.out Tryd.underlying9 Tryd.underlying42 Tryd.underlying5
    have hkw2 := HK1.out.trans hk2 (U := fun _ => False) (fun _ _ e => e) (fun _ _ e => e)
    have HC := Lib.hid (dec_ok s L _ w2 hrd (by omega) HBL.out (Utf8Tabs.kept HU.out hkw2 (fun h => h) (fun h => h)) HD.out)
    have HK2 := Lib.hid hkw2
    clear hrd hk2 hkw2
    go_upto_region 3 with (first | (go_at_call 15; (with_reducible refine HC.out.mono ?_); rintro e w3 ⟨A1, c1, A2, c2, A3, c3, rfl, hs3, hk3⟩; have HK3 := Lib.hid (And.intro (HK2.out.trans hk3 (U := fun _ => False) (fun _ _ e => e) (fun _ _ e => e)) hs3); have HN3 := Lib.hid (heap_alloc_new w3 (.cells zcells 33)); clear hk3 hs3) | (refine wpList_store33 rfl _ _ rfl w3.heap.size zcells (s.cells (.slice A1 s.links.length c1) (.slice A2 s.ats.length c2) (.slice A3 s.evs.length c3)) rfl rfl HN3.out rfl rfl (cells_one _ _ _ _ _ _ _ _ _ _) ?_; intro w4 hb4 hk4; have HV4 := Lib.hid (And.intro hb4 hk4); clear hb4 hk4))
    have hk34 := (Kept.alloc (fun _ => False) w3 (.cells #[.int .u64 0, .int .u64 0, .int .u64 0, .int .u64 0, .slice none 0 0, .string ⟨#[]⟩, .string ⟨#[]⟩, .int .i64 0, .int .i64 0, .int .i64 0, .int .i64 0, .slice none 0 0, .slice none 0 0] 33)).trans HV4.out.2 (U := fun _ => False) (fun _ _ e => e) (fun i hi e => by omega)
    have hkw4 := HK3.out.1.trans hk34 (U := fun _ => False) (fun _ _ e => e) (fun _ _ e => e)
    obtain ⟨xb, hxb⟩ : ∃ x, x = w3.heap.size := ⟨_, rfl⟩
    have hx4 := HV4.out.1
    rw [← hxb] at hx4 ⊢
    have HA4 := Lib.hid (And.intro hkw4 (And.intro hx4 (HK3.out.2.kept hk34)))
    have HE := Lib.hid (enc_ok s _ _ _ w4 HA4.out.2.2 HS.out.2.2.1 HS.out.2.2.2 (Utf8Tabs.kept HU.out hkw4 (fun h => h) (fun h => h)) HS.out.1 L.length (by rw [HS.out.2.1]) n0)
    clear hk34 hkw4 hx4 hxb HV4 HN3 HK3 HC
    go_upto_region 8 with (first | (refine wpList_load33 rfl _ rfl xb (s.cells (.slice A1 s.links.length c1) (.slice A2 s.ats.length c2) (.slice A3 s.evs.length c3)) rfl HA4.out.2.1 rfl ?_) | (go_at_call 14; (with_reducible refine HE.out.mono ?_); rintro e w5 ⟨g, c, rfl, hl5, hk5⟩; have HA5 := Lib.hid (And.intro (HA4.out.1.trans hk5 (U := fun _ => False) (fun _ _ e => e) (fun _ _ e => e)) (And.intro (blk_kept hk5 HA4.out.2.1 (fun h => h)) (And.intro (HA4.out.2.2.kept hk5) hl5))); clear hk5 hl5))
    have hchk := check_any s _ _ _ w5 HA5.out.2.2.1 HS.out.2.2.2 (Utf8Tabs.kept HU.out HA5.out.1 (fun h => h) (fun h => h))
    rw [HS.out.1] at hchk
    have HCK := Lib.hid hchk
    clear hchk HE HA4
    go_wp2_with (first | (refine wpList_load33 rfl _ rfl xb (s.cells (.slice A1 s.links.length c1) (.slice A2 s.ats.length c2) (.slice A3 s.evs.length c3)) rfl HA5.out.2.1 rfl ?_) | (go_at_call 10; (with_reducible refine HCK.out.mono ?_); rintro e w6 ⟨rfl, hk6⟩; have hcv6 := Lies.string (P := Tryd.prog) (src := 42) (dst := 9) Tryd.underlying42 Tryd.underlying5 Tryd.underlying9 (HA5.out.2.2.2.kept hk6 (fun _ _ h => h)); rw [HS.out.2.1] at hcv6; have HK6 := Lib.hid (HA5.out.1.trans hk6 (U := fun _ => False) (fun _ _ e => e) (fun _ _ e => e)); clear hk6))
    go_ret
    exact ⟨rfl, HK6.out⟩
end Go.Proofs.YtniigjfimggobaaDoor
