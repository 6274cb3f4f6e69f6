/- WireBack: what is written is read (the walk). -/
import Derived.Test.YtkefehceakcgoaaDoorV12
namespace Go.Proofs.YtkefehceakcgoaaDoor
open Go.RowKit
set_option linter.unusedVariables false
set_option linter.unusedSimpArgs false

def TruePost (w : World) (e : Ending) (w' : World) : Prop := e = .returned (.bool true) ∧ Kept (fun _ => False) w w'
set_option maxHeartbeats 16000000 in
set_option maxRecDepth 100000 in
theorem wireBack_any (qs : List Prt) (v : Value) (w : World) (hok : ∀ q ∈ qs, q.ok ∧ q.s.length ≤ 140737488351232) (hr : QsReads w v qs) (hU : Lib.Utf8Tabs 1 2 w) (hB : 2 < w.heap.size) (hlen : qs.length ≤ 140737488351232) :
    Calls Tryd.prog 3 #[v] w (TruePost w) := by
  obtain ⟨A, c, rfl, hcs⟩ := hr
  have HC := Lib.hid (And.intro hok (And.intro hcs hU))
  clear hok hcs hU
  go_enter Tryd.func3, Tryd.ntmps3
  go_wp2_with fail
  refine (awake_any w).mono ?_
  rintro e w1 ⟨rfl, hk1⟩
  have hs1 := hk1.size
  have H1 := Lib.hid hk1
  clear hk1
  go_wp2_with fail
  refine (newWriter_any w1).mono ?_
  rintro e w2 ⟨rfl, hw2⟩
  have hW2 : WrAt 83 5 w1.heap.size w2 w1.heap.size (.slice none 0 0) [] := by rw [hw2]; exact .new 83 5 w1
  have hk2 : Kept (fun _ => False) w w2 := H1.out.trans (by rw [hw2]; exact .alloc _ _ _) (fun _ _ e => e) (fun _ _ e => e)
  obtain ⟨g, hg⟩ : ∃ g, g = w1.heap.size := ⟨_, rfl⟩
  have hwg : w.heap.size ≤ g := by omega
  rw [← hg] at hW2 ⊢
  have H2 := Lib.hid (And.intro hW2 hk2)
  clear hw2 hW2 hk2 H1 hg
  go_wp2_with fail
  go_loopw [5, 6] (fun sm i wr => ∃ k : Nat, i = .int .i64 k ∧ sm = .int .i64 (sumTo qs k) ∧ k ≤ qs.length ∧ sumTo qs k ≤ 140737488351232 + 2147483657 ∧ wr = w2) (fun _ i _ => qs.length - (intOf i).toNat)
  case atStart => exact ⟨0, rfl, by rw [sumTo_zero]; rfl, by omega, by rw [sumTo_zero]; omega, rfl⟩
  case round =>
    obtain ⟨k, rfl, rfl, hk, hsk, rfl⟩ := hrel
    obtain ⟨S, hS⟩ : ∃ S, S = sumTo qs k := ⟨_, rfl⟩
    rw [← hS] at hsk ⊢
    have HS := Lib.hid hS
    clear hS
    have k0 : (0 : Int) ≤ k := by omega
    by_cases hend : k < qs.length
    · by_cases hbig : S ≤ 2147483647
      · obtain ⟨q, hq⟩ : ∃ q, qs[k]? = some q := ⟨_, List.getElem?_eq_getElem hend⟩
        obtain ⟨b, off, rfl, hcells⟩ := HC.out.2.1 (by omega)
        obtain ⟨-, -, -, -, x4⟩ := hcells k q hq
        have y4 := cell_kept H2.out.2 x4
        have hqs := HC.out.1 q (List.mem_of_getElem? hq)
        have hsz : (strOfNums q.s).size = q.s.length := strOfNums_size _
        have hql : (q.s.length : Int) ≤ 140737488351232 := by omega
        have h1 : (k : Int) < qs.length := by omega
        have h2 : (S : Int) ≤ 2147483647 := by omega
        have HQ := Lib.hid (And.intro hq hqs)
        clear x4 hcells hq hqs hbig hend
        go_wp2_with fail
        refine ⟨⟨k + 1, by congr 1, ?_, by omega, ?_, trivial⟩, by simp [intOf]; omega⟩
        · rw [sumTo_succ HQ.out.1, ← HS.out]; congr 1
        · rw [sumTo_succ HQ.out.1, ← HS.out]; omega
      · have h1 : (k : Int) < qs.length := by omega
        have h2 : ¬ (S : Int) ≤ 2147483647 := by omega
        clear hbig hend
        go_wp2_with fail
        go_ret
        exact ⟨rfl, H2.out.2⟩
    · have h1 : ¬ (k : Int) < qs.length := by omega
      by_cases hbig : S ≤ 2147483647
      · have h2 : ¬ (2147483647 : Int) < S := by omega
        have hS : sumTo qs qs.length ≤ 2147483647 := by have := HS.out; rw [show qs.length = k by omega]; omega
        have hn := sumTo_ge qs qs.length (Nat.le_refl _)
        have hoks : ∀ q ∈ qs, q.ok ∧ q.s.length ≤ 2147483647 := fun q hq => by
          obtain ⟨i, hi, rfl⟩ := List.getElem_of_mem hq
          exact ⟨(HC.out.1 _ hq).1, Nat.le_trans (sumTo_part (List.getElem?_eq_getElem hi)) hS⟩
        have hlen2 : qs.length ≤ 214748364 := by omega
        have HO := Lib.hid (And.intro hoks (And.intro hS hbig))
        clear hoks hS hbig hn hend hlen
        go_wp2_with fail
        go_loopw [7] (fun i W => ∃ (n : Nat) (v' : Value), i = .int .i64 n ∧ n ≤ qs.length ∧ WrAt 83 5 g W g v' (encs (qs.take n)) ∧ Kept (fun _ => False) w W) (fun i _ => qs.length - (intOf i).toNat)
        case atStart => exact ⟨0, _, rfl, by omega, H2.out.1, H2.out.2⟩
        case round =>
          obtain ⟨n, v', rfl, hn, hwr, hkw⟩ := hrel
          by_cases hend : n < qs.length
          · obtain ⟨q, hq⟩ : ∃ q, qs[n]? = some q := ⟨_, List.getElem?_eq_getElem hend⟩
            obtain ⟨b, off, rfl, hcells⟩ := HC.out.2.1 (by omega)
            obtain ⟨x0, x1, x2, x3, x4⟩ := hcells n q hq
            have y0 := cell_kept hkw x0
            have y2 := cell_kept hkw x2
            have y3 := cell_kept hkw x3
            have y4 := cell_kept hkw x4
            have hqs := HO.out.1 q (List.mem_of_getElem? hq)
            have hle := encs_len qs n HO.out.1
            have hle2 := sumTo_mono qs n qs.length hn
            have hEl : (encs (qs.take n)).length ≤ 2147483647 := by have := HO.out.2.1; omega
            have het := encs_take hq
            have hlo := fun i e => (hwr.own.lt i e).1
            have hX : ∀ v2 W2, WrStep 83 5 g g v' wr v2 (encs (qs.take n) ++ q.enc) W2 → WrAt 83 5 g W2 g v2 (encs (qs.take (n + 1))) ∧ Kept (fun _ => False) w W2 := fun v2 W2 hst => by
              refine ⟨by rw [het]; exact hst.at_, hkw.trans hst.kept (fun _ _ e => e) (fun i hi e => ?_)⟩
              rcases e with e | e
              · omega
              · have := hlo i e; omega
            obtain ⟨L, hL⟩ : ∃ L, L = encs (qs.take n) := ⟨_, rfl⟩
            rw [← hL] at hX hEl hwr
            have HX := Lib.hid hX
            have HQ := Lib.hid (And.intro hq (And.intro hqs.1 (And.intro hqs.2 hwr)))
            have hqsl := hqs.2
            have hsz : (strOfNums q.s).size = q.s.length := strOfNums_size _
            have HKW := Lib.hid hkw
            have h1n : (n : Int) < qs.length := by omega
            have n0 : (0 : Int) ≤ n := by omega
            clear x0 x1 x2 x3 x4 hcells hq hqs hle hle2 het hlo hX hwr hkw hL hend
            go_wp2_with fail
            refine (pick_any q.k 4 wr (by decide) (by decide) HQ.out.2.1.k0 HQ.out.2.1.k1).mono ?_
            rintro e w' ⟨rfl, hw'⟩
            obtain rfl : wr = w' := hw'.symm
            clear hw'
            have hp4 := pickN_lt q.k 4 (by decide)
            by_cases hk0 : pickN q.k 4 = 0
            · rw [hk0]
              have ee : q.enc = venc q.u := by unfold Prt.enc; rw [if_pos hk0]
              rw [ee] at HX
              clear hk0 hp4 ee
              go_wp2_with fail
              refine (uint_any g g v' L q.u wr HQ.out.2.1.u1 HQ.out.2.2.2 (by omega)).mono ?_
              rintro e w3 ⟨rfl, v2, hst⟩
              have HE := Lib.hid (HX.out _ _ hst)
              clear hst
              go_wp2_with fail
              exact ⟨⟨n + 1, v2, by congr 1, by omega, HE.out.1, HE.out.2⟩, by simp [intOf]; omega⟩
            · by_cases hk1 : pickN q.k 4 = 1
              · rw [hk1]
                have ee : q.enc = venc (zig q.i).toNat := by unfold Prt.enc; rw [if_neg hk0, if_pos hk1]
                rw [ee] at HX
                clear hk0 hk1 hp4 ee
                go_wp2_with fail
                refine (int_any g g v' L q.i wr HQ.out.2.1.i0 HQ.out.2.1.i1 HQ.out.2.2.2 (by omega)).mono ?_
                rintro e w3 ⟨rfl, v2, hst⟩
                have HE := Lib.hid (HX.out _ _ hst)
                clear hst
                go_wp2_with fail
                exact ⟨⟨n + 1, v2, by congr 1, by omega, HE.out.1, HE.out.2⟩, by simp [intOf]; omega⟩
              · by_cases hk2 : pickN q.k 4 = 2
                · rw [hk2]
                  have ee : q.enc = venc (cleanL q.s).length ++ cleanL q.s := by unfold Prt.enc; rw [if_neg hk0, if_neg hk1, if_pos hk2]
                  have hcl := cleanL_len q.s
                  have hcb := cleanL_bytes HQ.out.2.1.s0
                  rw [ee, ← List.append_assoc] at HX
                  clear hk0 hk1 hk2 hp4 ee
                  go_wp2_with fail
                  refine (clean_any q.s wr HQ.out.2.1.s0 (by omega)).mono ?_
                  rintro e w3 ⟨rfl, hk3⟩
                  have hwr3 := HQ.out.2.2.2.kept hk3 (by simp) (by simp)
                  have HK3 := Lib.hid hk3
                  clear hk3
                  obtain ⟨C, hC⟩ : ∃ C, C = cleanL q.s := ⟨_, rfl⟩
                  rw [← hC] at HX hcl hcb ⊢
                  clear hC
                  go_wp2_with fail
                  refine (text_any g g v' L C _ w3 hcb hwr3 rfl (by omega)).mono ?_
                  rintro e w4 ⟨rfl, v2, hst⟩
                  have hst' : WrStep 83 5 g g v' wr v2 (L ++ venc C.length ++ C) w4 := ⟨hst.at_, (Moved.refl v' wr).trans hst.moved HK3.out.size, HK3.out.trans hst.kept (fun _ _ e => e.elim) (fun _ _ e => e)⟩
                  have HE := Lib.hid (HX.out _ _ hst')
                  clear hst hst'
                  go_wp2_with fail
                  exact ⟨⟨n + 1, v2, by congr 1, by omega, HE.out.1, HE.out.2⟩, by simp [intOf]; omega⟩
                · rw [show pickN q.k 4 = 3 by omega]
                  have ee : q.enc = q.s := by unfold Prt.enc; rw [if_neg hk0, if_neg hk1, if_neg hk2]
                  rw [ee] at HX
                  clear hk0 hk1 hk2 hp4 ee
                  obtain ⟨Cp, W2, hcv, hrd, hk3⟩ := bytes_conv (P := Tryd.prog) (src := 9) (dst := 35) (e := 5) wr q.s HQ.out.2.1.s0 Tryd.underlying9 Tryd.underlying35 Tryd.underlying5
                  have hwr3 := HQ.out.2.2.2.kept hk3 (by simp) (by simp)
                  have HK3 := Lib.hid hk3
                  clear hk3
                  go_wp2_with fail
                  refine (raw_any g g v' _ L q.s W2 hrd hwr3 (by omega)).mono ?_
                  rintro e w4 ⟨rfl, v2, hst⟩
                  have hst' : WrStep 83 5 g g v' wr v2 (L ++ q.s) w4 := ⟨hst.at_, (Moved.refl v' wr).trans hst.moved HK3.out.size, HK3.out.trans hst.kept (fun _ _ e => e.elim) (fun _ _ e => e)⟩
                  have HE := Lib.hid (HX.out _ _ hst')
                  clear hst hst'
                  go_wp2_with fail
                  exact ⟨⟨n + 1, v2, by congr 1, by omega, HE.out.1, HE.out.2⟩, by simp [intOf]; omega⟩
          · have hnn : qs.take n = qs := List.take_of_length_le (by omega)
            rw [hnn] at hwr
            have hLl : (encs qs).length ≤ 2147483647 := by have := encs_len qs qs.length HO.out.1; rw [List.take_length] at this; have := HO.out.2.1; omega
            have hLb := encs_bytes qs fun q hq => (HO.out.1 q hq).1
            obtain ⟨L, hL⟩ : ∃ L, L = encs qs := ⟨_, rfl⟩
            rw [← hL] at hwr hLl hLb
            have HL := Lib.hid hL
            have h1n : ¬ (n : Int) < qs.length := by omega
            have HW := Lib.hid hwr
            have HK := Lib.hid hkw
            clear hwr hkw hL hnn hend
            go_wp2_with fail
            refine (bytes_any g g v' L wr HW.out (by omega)).mono ?_
            rintro e w3 ⟨v3, rfl, hL3, hk3, -⟩
            have H3 := Lib.hid (And.intro hL3 hk3)
            clear hL3 hk3
            go_wp2_with fail
            refine (newReader_any v3 L w3 H3.out.1.reads (by omega)).mono ?_
            rintro e w4 ⟨r, v4, rfl, hR4, hk4⟩
            have hk34 : Kept (fun _ => False) wr w4 := H3.out.2.trans hk4 (fun _ _ e => e) (fun _ _ e => e)
            have hW4 := HW.out.kept hk34 (by simp) (by simp)
            have hkw4 : Kept (fun _ => False) w w4 := HK.out.trans hk34 (fun _ _ e => e) (fun _ _ e => e)
            have hrb := hR4.base
            have hg3 : g < w3.heap.size := Nat.lt_of_lt_of_le (blk_lt HW.out.blk) H3.out.2.size
            have hv3 : ∀ i, v'.ownBlock = some i → i < w3.heap.size := fun i e => Nat.lt_of_lt_of_le (HW.out.own.lt i e).2 H3.out.2.size
            have hw3 : w.heap.size ≤ w3.heap.size := Nat.le_trans HK.out.size H3.out.2.size
            have H4 := Lib.hid (And.intro hR4 (And.intro hW4 (And.intro hkw4 hv3)))
            clear hR4 hk4 hk34 hW4 hkw4 H3 HW HK hv3
            go_wp2_with fail
            go_loopw [9] (fun i W => ∃ n : Nat, i = .int .i64 n ∧ n ≤ qs.length ∧ RdAt w3.heap.size W r v4 L (encs (qs.take n)).length ∧ Kept (fun i => i = r) w4 W) (fun i _ => qs.length - (intOf i).toNat)
            case atStart => exact ⟨0, rfl, by omega, H4.out.1, .refl _ _⟩
            case round =>
              obtain ⟨n2, rfl, hn2, hrd, hkr⟩ := hrel
              have hkw : Kept (fun _ => False) w wr := H4.out.2.2.1.trans hkr (fun _ _ e => e) (fun i hi e => by omega)
              by_cases hend : n2 < qs.length
              · obtain ⟨q, hq⟩ : ∃ q, qs[n2]? = some q := ⟨_, List.getElem?_eq_getElem hend⟩
                obtain ⟨b, off, rfl, hcells⟩ := HC.out.2.1 (by omega)
                obtain ⟨x0, x1, x2, x3, x4⟩ := hcells n2 q hq
                have y0 := cell_kept hkw x0
                have y1 := cell_kept hkw x1
                have y2 := cell_kept hkw x2
                have y3 := cell_kept hkw x3
                have y4 := cell_kept hkw x4
                have hqs := HO.out.1 q (List.mem_of_getElem? hq)
                have hU := Utf8Tabs.kept HC.out.2.2 hkw (by simp) (by simp)
                have hle := encs_len qs n2 HO.out.1
                have hde := encs_drop hq
                rw [← HL.out] at hde
                have hpl : (encs (qs.take n2)).length ≤ L.length := by
                  have := congrArg List.length hde
                  have e5 := congrArg List.length (encs_take hq)
                  have e6 : encs qs = encs (qs.take n2) ++ encs (qs.drop n2) := by unfold encs; rw [← List.flatMap_append, List.take_append_drop]
                  rw [HL.out, e6, List.length_append]; omega
                have het := congrArg List.length (encs_take hq)
                rw [List.length_append] at het
                obtain ⟨P, hP⟩ : ∃ P, P = (encs (qs.take n2)).length := ⟨_, rfl⟩
                rw [← hP] at hrd hde hpl het
                have HQ := Lib.hid (And.intro hqs (And.intro hrd (And.intro hkr (And.intro hde (And.intro hpl (And.intro het hU))))))
                have h1n2 : (n2 : Int) < qs.length := by omega
                have n20 : (0 : Int) ≤ n2 := by omega
                clear x0 x1 x2 x3 x4 hcells hq hqs hU hle hde hpl het hP hrd hkr hkw hend
                go_wp2_with fail
                refine (back_any w3.heap.size r P v4 L (encs (qs.drop (n2 + 1))) q wr HQ.out.1.1 HQ.out.1.2 HQ.out.2.1 HQ.out.2.2.2.2.1 (by omega) hLb HQ.out.2.2.2.2.2.2 (by omega) HQ.out.2.2.2.1).mono ?_
                rintro e w5 ⟨rfl, hrd5, hk5⟩
                have HE : Hid (RdAt w3.heap.size w5 r v4 L (encs (qs.take (n2 + 1))).length ∧ Kept (fun i => i = r) w4 w5) := Lib.hid ⟨by rw [HQ.out.2.2.2.2.2.1]; exact hrd5, HQ.out.2.2.1.trans hk5 (fun _ _ e => e) (fun _ _ e => e)⟩
                clear hrd5 hk5
                go_wp2_with fail
                exact ⟨⟨n2 + 1, by congr 1, by omega, HE.out.1, HE.out.2⟩, by simp [intOf]; omega⟩
              · have hnn : qs.take n2 = qs := List.take_of_length_le (by omega)
                rw [hnn, ← HL.out] at hrd
                have hW5 := H4.out.2.1.kept hkr (by omega) (fun i e => by have := H4.out.2.2.2 i e; omega)
                have H5 := Lib.hid (And.intro hrd (And.intro hW5 hkw))
                have h1n2 : ¬ (n2 : Int) < qs.length := by omega
                clear hnn hrd hW5 hkr hkw hend
                go_wp2_with fail
                refine (left_any _ r _ v4 L wr H5.out.1 (Nat.le_refl _) (by omega)).mono ?_
                rintro e w5 ⟨rfl, hk5⟩
                rw [Nat.sub_self]
                have hrd5 := H5.out.1.kept hk5 (by simp) (by simp)
                have hW5 := H5.out.2.1.kept hk5 (by simp) (by simp)
                have H6 := Lib.hid (And.intro hrd5 (And.intro hW5 (H5.out.2.2.trans hk5 (U := fun _ => False) (fun _ _ e => e) (fun _ _ e => e))))
                clear hrd5 hW5 hk5
                go_wp2_with fail
                refine (at_any _ r _ v4 L w5 H6.out.1 (Nat.le_refl _) (by omega)).mono ?_
                rintro e w6 ⟨rfl, hw6⟩
                obtain rfl : w5 = w6 := hw6.symm
                clear hw6
                go_wp2_with fail
                refine (len_any g g v' L w5 H6.out.2.1 (by omega)).mono ?_
                rintro e w6 ⟨rfl, hw6⟩
                obtain rfl : w5 = w6 := hw6.symm
                clear hw6
                go_wp2_with fail
                refine (end_none _ r v4 L w5 H6.out.1 (by omega)).mono ?_
                rintro e w6 ⟨rfl, hk6⟩
                have H7 := Lib.hid (H6.out.2.2.trans hk6 (U := fun _ => False) (fun _ _ e => e) (fun _ _ e => e))
                clear hk6
                go_wp2_with fail
                go_ret
                exact ⟨rfl, H7.out⟩
      · have h2 : (2147483647 : Int) < S := by omega
        clear hbig hend
        go_wp2_with fail
        go_ret
        exact ⟨rfl, H2.out.2⟩
end Go.Proofs.YtkefehceakcgoaaDoor
