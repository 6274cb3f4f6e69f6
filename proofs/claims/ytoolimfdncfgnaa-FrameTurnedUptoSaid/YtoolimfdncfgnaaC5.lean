/- FrameSums: the document's sum, whatever is handed in. -/
import Derived.Test.YtoolimfdncfgnaaC4
import Derived.Test.YtoolimfdncfgnaaB1
namespace Go.Proofs.Ytoolimfdncfgnaa
open Go.RowKit
set_option linter.unusedVariables false
set_option linter.unusedSimpArgs false

theorem Holds.reads {g n size : Nat} {L l : List Int} {w : World} {c : Nat} (h : Holds g L n size w) (hn : l.length ≤ n) (he : ∀ j, j < l.length → L.getD j 0 = l.getD j 0) (hc : l.length ≤ c) :
    Reads w (.slice (some ⟨g, 0, none⟩) l.length c) l := by
  obtain ⟨arr, hb, -, hcs⟩ := h
  refine ⟨some ⟨g, 0, none⟩, c, rfl, ⟨fun e => (by cases e), hc⟩, fun j u hu => ⟨⟨g, 0, none⟩, rfl, ?_⟩⟩
  have hj : j < l.length := by
    have := (List.getElem?_eq_some_iff.1 hu).1
    simpa [nums] using this
  rw [nums_get .u8 l j hj] at hu
  injection hu with hu
  have ha : (⟨g, 0, none⟩ : Addr).add j = ⟨g, j, none⟩ := by unfold Addr.add; split <;> simp_all
  rw [ha, blk_cell hb, hcs j (by omega), he j hj, hu]
theorem Holds.kept {g n size : Nat} {L : List Int} {w w' : World} (h : Holds g L n size w) (hk : Kept (fun _ => False) w w') : Holds g L n size w' := by
  obtain ⟨arr, hb, r⟩ := h
  exact ⟨arr, blk_kept hk hb id, r⟩
theorem Holds.lent {g size : Nat} {l : List Int} {w : World} (h : Holds g (lentL l) (l.length + 40) size w) : Reads w (.slice (some ⟨g, 0, none⟩) l.length (l.length + 40)) l :=
  h.reads (by omega) (fun j hj => lentL_lo l j hj) (by omega)
theorem Holds.over {g size : Nat} {l : List Int} {w : World} (h : Holds g (xorL (lentL l)) (l.length + 40) size w) : Reads w (.slice (some ⟨g, 0, none⟩) (xorL l).length (l.length + 40)) (xorL l) :=
  h.reads (by rw [xorL_len]; omega) (fun j hj => by
    rw [xorL_len] at hj
    rw [xorL_get _ _ (by rw [lentL_len]; omega), xorL_get _ _ hj, lentL_lo l j hj]) (by rw [xorL_len]; omega)
/-- What reads elsewhere reads on, when the block g is written. -/
theorem Reads.beside {w0 w : World} {v : Value} {l : List Int} {g : Nat} (h : Reads w0 v l) (hk : Kept (fun _ => False) w0 w) (hg : w0.heap.size ≤ g) : ∀ W, Kept (fun k => k = g) w W → Reads W v l := fun W hW => by
  obtain ⟨A, c, rfl, h0, hc⟩ := h
  refine ⟨A, c, rfl, h0, fun j u hu => ?_⟩
  obtain ⟨ad, hA, hcell⟩ := hc j u hu
  have hlt := World.block_lt_of_cell? w0 _ hcell
  have h1 := (World.cell?_of_block (hk.block _ hlt id)).trans hcell
  exact ⟨ad, hA, (World.cell?_of_block (hW.block _ (World.block_lt_of_cell? w _ h1) (by omega))).trans h1⟩

theorem refSum0 (v : Value) (l : List Int) (w : World) (hb : Bytes l) (hl : l.length ≤ 4294967296) (hr : Reads w v l) :
    Calls Try.prog 32 #[v] w fun e w' => e = .returned (.int .u32 (more 0 l)) ∧ Kept (fun _ => False) w w' := refSum_any v l w hb hl hr

set_option maxHeartbeats 8000000 in
theorem summed_any (sum : Nat) (v : Value) (l : List Int) (w : World) (hs : sum < 4294967296) (hb : Bytes l) (hl : l.length ≤ 4294967296) (hr : Reads w v l) :
    Calls Try.prog 15 #[v, .int .u32 sum] w (True1 w) := by
  obtain ⟨i0, hi, hz0, hz1, hz2⟩ := info_u8
  have hm : maxLen = 9223372036854775807 := rfl
  have HM := Lib.hid hm
  clear hm
  have HL := Lib.hid (lent_any v l w hb hl hr)
  have HRv := Lib.hid hr
  obtain ⟨A, c, rfl, -⟩ := hr
  go_enter Try.func15, Try.ntmps15
  go_wp2_with fail
  refine HL.out.mono ?_
  rintro e w1 ⟨rfl, hk1, hh1⟩
  have H1 := Lib.hid (And.intro hk1 hh1)
  clear hk1 hh1 HL
  go_wp2_with fail
  go_loopw [6] (fun i wr => ∃ n : Nat, i = .int .i64 n ∧ n ≤ 2 ∧ Kept (fun _ => False) w1 wr) (fun i _ => 2 - (intOf i).toNat)
  case atStart => exact ⟨0, rfl, by omega, .refl _ _⟩
  case round =>
    obtain ⟨n, rfl, hn, hk⟩ := hrel
    have HK := Lib.hid hk
    clear hk
    by_cases h : n < 2
    · have h1 : (n : Int) < 2 := by omega
      have hkw := kt H1.out.1 HK.out
      have c1 := sum_any _ l wr hb (by omega) (H1.out.2.kept HK.out).lent
      have C1 := Lib.hid c1
      have HRE := Lib.hid (fun W (h : Kept (fun _ => False) wr W) => And.intro ((H1.out.2.kept (kt HK.out h)).lent) (HRv.out.kept (kt hkw h)))
      clear c1 hkw
      go_wp2_with fail
      refine C1.out.mono ?_
      rintro e w2 ⟨rfl, hk2⟩
      have K2 := Lib.hid hk2
      clear hk2
      go_wp2_with fail
      refine (more_any sum _ l w2 hs hb (by omega) (HRE.out _ K2.out).1).mono ?_
      rintro e w3 ⟨rfl, hk3⟩
      have K3 := Lib.hid (kt K2.out hk3)
      clear hk3
      go_wp2_with fail
      refine (refSum0 _ l w3 hb hl (HRE.out _ K3.out).2).mono ?_
      rintro e w4 ⟨rfl, hk4⟩
      have K4 := Lib.hid (kt K3.out hk4)
      clear hk4
      go_wp2_with fail
      refine (refMore_any sum _ l w4 hs hb hl (HRE.out _ K4.out).2).mono ?_
      rintro e w5 ⟨rfl, hk5⟩
      have K5 := Lib.hid (kt HK.out (kt K4.out hk5))
      clear hk5
      go_wp2_with fail
      exact ⟨⟨n + 1, by congr 1, by omega, K5.out⟩, by simp [intOf]; omega⟩
    · obtain rfl : n = 2 := by omega
      go_wp2_with fail
      refine (back_any w.heap.size _ l wr hb hl (H1.out.2.kept HK.out) (HRv.out.beside (kt H1.out.1 HK.out) (Nat.le_refl _))).mono ?_
      rintro e w2 ⟨rfl, hk2, hh2⟩
      have K2 : Hid (Kept (fun _ => False) w w2) := Lib.hid ((kt H1.out.1 HK.out).trans hk2 (fun _ _ e => e) (fun i hi e => by omega))
      have H2 := Lib.hid hh2
      clear hk2 hh2
      have hxl : (xorL l).length = l.length := xorL_len l
      have hxb := xorL_bytes hb
      obtain ⟨X, hX⟩ : ∃ X, X = xorL l := ⟨_, rfl⟩
      have HRX := Lib.hid (fun W (h : Kept (fun _ => False) w2 W) => (H2.out.kept h).over)
      rw [← hX] at hxl hxb HRX
      have ow1 := own_empty' w2 5
      have ra1 := (HRX.out _ (.refl _ _)).kept (Kept.alloc _ w2 (.cells #[] 5))
      rw [hxl] at ra1 HRX
      clear hX
      have HXL := Lib.hid hxl
      go_wp2_with (at_builtin; refine wpList_append_reads rfl _ _ 25 rfl w2.heap.size 5 i0 (.int .u8 0) 1 Try.underlying25 hi hz0 hz1 hz2 rfl (.slice (some ⟨w2.heap.size, 0, none⟩) 0 0) (.slice (some ⟨w.heap.size, 0, none⟩) l.length (l.length + 40)) [] X rfl rfl ra1 ow1 ?c2 ?c3 ?c4 ?_)
      case c2 => have := HM.out; simp; omega
      case c3 => simp; omega
      case c4 => simp
      rintro v3 w3 st3
      have k3' := st3.old (Kept.alloc (fun _ => False) w2 _) (fun i hi => by simp [Value.ownBlock] at hi; omega)
      have S3 := Lib.hid (And.intro st3 k3')
      clear st3 k3' ra1 ow1
      have HRO := Lib.hid (fun W (h : Kept (fun _ => False) w3 W) => And.intro (HRX.out _ (kt S3.out.2 h)) (show Reads W v3 X from S3.out.1.reads.kept h))
      go_wp2_with fail
      refine (more_any sum _ X w3 hs hxb (by omega) (by have := (HRO.out _ (.refl _ _)).1; exact this)).mono ?_
      rintro e w4 ⟨rfl, hk4⟩
      have K4 := Lib.hid hk4
      clear hk4
      go_wp2_with fail
      refine (sum_any _ X w4 hxb (by omega) (HRO.out _ K4.out).1).mono ?_
      rintro e w5 ⟨rfl, hk5⟩
      have K5 := Lib.hid (kt K4.out hk5)
      clear hk5
      go_wp2_with fail
      refine (refSum0 _ X w5 hxb (by omega) (HRO.out _ K5.out).2).mono ?_
      rintro e w6 ⟨rfl, hk6⟩
      have K6 := Lib.hid (kt K5.out hk6)
      clear hk6
      go_wp2_with fail
      refine (refMore_any sum _ X w6 hs hxb (by omega) (HRO.out _ K6.out).2).mono ?_
      rintro e w7 ⟨rfl, hk7⟩
      have K7 := Lib.hid (kt K6.out hk7)
      clear hk7
      go_wp2_with fail
      go_ret
      exact ⟨rfl, kt K2.out (kt S3.out.2 K7.out)⟩

set_option maxHeartbeats 4000000 in
theorem sums_any (sum : Nat) (v u : Value) (a b : List Int) (w : World) (hs : sum < 4294967296) (ba : Bytes a) (bb : Bytes b) (la : a.length ≤ 4294967296) (lb : b.length ≤ 4294967296) (ra : Reads w v a) (rb : Reads w u b) :
    Calls Try.prog 4 #[v, u, .int .u32 sum] w (True1 w) := by
  have HR := Lib.hid (And.intro ra rb)
  clear ra rb
  go_enter Try.func4, Try.ntmps4
  go_wp2_with fail
  refine (shown_any w).mono ?_
  rintro e w1 ⟨rfl, hk1⟩
  have K1 := Lib.hid hk1
  clear hk1
  go_wp2_with fail
  refine (summed_any sum v a w1 hs ba la (HR.out.1.kept K1.out)).mono ?_
  rintro e w2 ⟨rfl, hk2⟩
  have K2 := Lib.hid (kt K1.out hk2)
  clear hk2
  go_wp2_with fail
  refine (summed_any sum u b w2 hs bb lb (HR.out.2.kept K2.out)).mono ?_
  rintro e w3 ⟨rfl, hk3⟩
  have K3 := Lib.hid (kt K2.out hk3)
  clear hk3
  go_wp2_with fail
  refine (summed_any sum v a w3 hs ba la (HR.out.1.kept K3.out)).mono ?_
  rintro e w4 ⟨rfl, hk4⟩
  have K4 := Lib.hid (kt K3.out hk4)
  clear hk4
  go_wp2_with fail
  go_ret
  exact ⟨rfl, K4.out⟩
end Go.Proofs.Ytoolimfdncfgnaa
