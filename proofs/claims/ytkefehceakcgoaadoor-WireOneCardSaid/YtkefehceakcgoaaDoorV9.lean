/- A reader's Text (the walk). -/
import Derived.Test.YtkefehceakcgoaaDoorV8
namespace Go.Proofs.YtkefehceakcgoaaDoor
open Go.RowKit
set_option linter.unusedVariables false
set_option linter.unusedSimpArgs false

set_option maxHeartbeats 4000000 in
set_option maxRecDepth 100000 in
theorem getText_any (B r n : Nat) (v : Value) (l : List Int) (most : Int) (w : World) (h : RdAt B w r v l n) (hn : n ≤ l.length) (hl : l.length ≤ 140737488355328) (hb : Bytes l) (hm0 : -9223372036854775808 ≤ most) (hm1 : most ≤ 9223372036854775807)
    (hU : Lib.Utf8Tabs 1 2 w) :
    Calls Tryd.prog 39 #[.pointer (some ⟨r, 0, none⟩), .int .i64 most] w (TextPost B r n v l most w) := by
  have h0 : w.cell? ⟨r, 0, none⟩ = some v := (blk_cell h.blk 0).trans rfl
  have h1 : w.cell? ⟨r, 1, none⟩ = some (.int .i64 n) := (blk_cell h.blk 1).trans rfl
  have H := Lib.hid h
  have HU := Lib.hid hU
  clear hU
  by_cases hneg : most < 0
  · have HT : Hid (textR l n most = .err n 1) := Lib.hid (by unfold textR; rw [if_pos hneg])
    go_enter Tryd.func39, Tryd.ntmps39
    go_wp2_with (go_at_call 40; refine (wrong_any _ _ _).mono ?_; rintro e w' ⟨rfl, rfl⟩)
    go_ret2
    exact TextPost.bad HT.out rfl (.refl _ _)
  · obtain ⟨q, hq⟩ : ∃ q, q = numR (l.drop n) 0 0 := ⟨_, rfl⟩
    obtain ⟨M, rfl⟩ : ∃ M : Nat, most = M := ⟨most.toNat, by omega⟩
    have hM : M ≤ 9223372036854775807 := by omega
    have hMn : ¬ (M : Int) < 0 := hneg
    have hT0 : textR l n M = textQ l n M q := by unfold textR; rw [if_neg hneg, hq]
    have HQ := Lib.hid hq
    clear hq hneg hm0 hm1
    obtain ⟨A, c, rfl⟩ := h.lies.slice
    have HP : Hid (∀ e w', NumPost l n w e w' → NumQ l n w e w' q) := Lib.hid fun e w' hp => hp.q HQ.out
    cases q with
    | form =>
      have HT : Hid (textR l n M = .err n 12) := Lib.hid hT0
      clear hT0
      go_enter Tryd.func39, Tryd.ntmps39
      go_wp2_with fail
      refine (number_any B r n _ l w H.out hn (by omega) hb).mono ?_
      intro e w' hp
      obtain ⟨rfl, rfl⟩ := HP.out _ _ hp
      clear hp
      go_wp2_with fail
      go_ret2
      exact TextPost.bad HT.out rfl (.refl _ _)
    | fin =>
      have HT : Hid (textR l n M = .err l.length 11) := Lib.hid hT0
      clear hT0
      go_enter Tryd.func39, Tryd.ntmps39
      go_wp2_with fail
      refine (number_any B r n _ l w H.out hn (by omega) hb).mono ?_
      intro e w' hp
      obtain ⟨rfl, rfl⟩ := HP.out _ _ hp
      clear hp
      go_wp2_with fail
      go_ret2
      exact TextPost.bad HT.out rfl (.refl _ _)
    | ok x k =>
      have hx64 := numR_lt _ _ _ _ _ HQ.out.symm
      have hsz := numR_size _ _ _ _ _ HQ.out.symm
      rw [List.length_drop] at hsz
      by_cases hlong : (M : Int) < x
      · have HT : Hid (textR l n M = .err n 13) := Lib.hid (by rw [hT0]; unfold textQ; exact if_pos hlong)
        clear hT0
        go_enter Tryd.func39, Tryd.ntmps39
        go_wp2_with fail
        refine (number_any B r n _ l w H.out hn (by omega) hb).mono ?_
        intro e w' hp
        obtain ⟨rfl, rfl⟩ := HP.out _ _ hp
        clear hp
        go_wp2_with (go_at_call 40; refine (wrong_any _ _ _).mono ?_; rintro e w' ⟨rfl, rfl⟩)
        go_ret2
        exact TextPost.bad HT.out rfl (.refl _ _)
      · simp only [textQ] at hT0
        rw [if_neg hlong] at hT0
        by_cases hend : l.length - (n + k) < x
        · have HT : Hid (textR l n M = .err l.length 11) := Lib.hid (by rw [hT0]; exact if_pos hend)
          clear hT0
          have he1 : ((l.length : Int) - ((n + k : Nat) : Int)) < x := by omega
          go_enter Tryd.func39, Tryd.ntmps39
          go_wp2_with fail
          refine (number_any B r n _ l w H.out hn (by omega) hb).mono ?_
          intro e w' hp
          obtain ⟨rfl, rfl⟩ := HP.out _ _ hp
          clear hp
          go_wp2_with (go_at_call 40; refine (wrong_any _ _ _).mono ?_; rintro e w' ⟨rfl, rfl⟩)
          go_ret2
          exact TextPost.bad HT.out rfl (.refl _ _)
        · rw [if_neg hend] at hT0
          obtain ⟨F, hF⟩ : ∃ F, F = n + k := ⟨_, rfl⟩
          obtain ⟨g, rfl, hgl⟩ : ∃ g, A = some ⟨g, 0, none⟩ ∧ True := by
            rcases h.lies with ⟨rfl, _⟩ | ⟨g, c', cur, he, _⟩
            · rw [List.length_nil] at hsz; omega
            · injection he with he _ _
              exact ⟨g, he, trivial⟩
          have hcv := fun c' => h.lies.mid (dst := 9) Tryd.underlying35 Tryd.underlying5 Tryd.underlying9 F x (by omega) c'
          have hcl : l.length ≤ c ∧ c ≤ 9223372036854775807 := by
            rcases h.lies with ⟨rfl, he⟩ | ⟨g', c', cur, he, _, _, h3, _, h5, _⟩
            · cases he
            · injection he with _ _ he
              subst he
              unfold maxLen at h5
              omega
          rw [← hF] at hT0
          obtain ⟨Q, hQ⟩ : ∃ Q, Q = (l.drop F).take x := ⟨_, rfl⟩
          rw [← hQ] at hT0
          have hcv2 : ∀ c', (convert 35 9 (.slice (some ⟨g, F, none⟩) x c')).run Tryd.prog w = .ok (.string (strOfNums Q)) w := fun c' => by rw [hQ]; exact hcv c'
          have hQl : Q.length = x := by rw [hQ, List.length_take, List.length_drop]; omega
          have hQb : Bytes Q := by rw [hQ]; exact fun y hy => hb y (List.mem_of_mem_drop (List.mem_of_mem_take hy))
          have hQs : (strOfNums Q).size = x := by rw [strOfNums_size]; exact hQl
          have HT := Lib.hid (And.intro hT0 (And.intro hQb hQl))
          have f1 : (F : Int) + x ≤ l.length := by omega
          have f2 : ((F + x : Nat) : Int) ≤ c := by omega
          have f3 : ¬ ((l.length : Int) - (F : Int)) < x := by omega
          have f4 : ¬ (M : Int) < (x : Int) := hlong
          have f7 : (M < x) = False := eq_false (by omega)
          have f8 : (((l.length : Int) - (F : Int)) < x) = False := eq_false f3
          have f5 : (F : Int) ≤ F + x := by omega
          have f6 : ((l.length : Int) - (F : Int)) % 18446744073709551616 = (l.length : Int) - F := by omega
          have hnum : ∀ e w', NumPost l n w e w' → e = .returned (.tuple #[.int .u64 x, .int .i64 F, .nilIface]) ∧ w' = w := fun e w' hp => by rw [hF]; exact HP.out e w' hp
          have hcv0 : ∀ A' c', (convert 35 9 (.slice A' 0 c')).run Tryd.prog w = .ok (.string (strOfNums [])) w := fun A' c' => convert_none Tryd.underlying35 Tryd.underlying5 Tryd.underlying9 w A' c'
          have HF := Lib.hid hF
          clear HP hT0 hQb hcv hQ hF hsz hend hlong
          by_cases hcF : c = F
          · obtain rfl : x = 0 := by omega
            obtain rfl : Q = [] := List.eq_nil_of_length_eq_zero hQl
            have HR : Hid (textR l n M = .ok [] F) := Lib.hid (by rw [HT.out.1, badR_nil]; rfl)
            have hcF' : (c = F) = True := eq_true hcF
            clear HT hQl hQs hcv2 hcF
            go_enter Tryd.func39, Tryd.ntmps39
            go_wp2_with fail
            refine (number_any B r n _ l w H.out hn (by omega) hb).mono ?_
            intro e w' hp
            obtain ⟨rfl, rfl⟩ := hnum _ _ hp
            clear hp hnum
            go_wp2_with fail
            refine wp_loop_rounds 1 ?_
            rw [rounds_succ]
            have hz : (strOfNums []).size = 0 := rfl
            have hf1 := blk_frozen h.blk 1
            go_wp2_with fail
            go_ret2
            unfold TextPost
            rw [HR.out]
            exact ⟨rfl, H.out.move F⟩
          · clear hcv0
            go_enter Tryd.func39, Tryd.ntmps39
            go_wp2_with fail
            refine (number_any B r n _ l w H.out hn (by omega) hb).mono ?_
            intro e w' hp
            obtain ⟨rfl, rfl⟩ := hnum _ _ hp
            clear hp hnum
            go_wp2_with fail
            simp only [Nat.add_sub_cancel_left]
            go_loopw [10, 11, 12] (fun i _ _ wr => ∃ j : Nat, i = .int .i64 j ∧ j ≤ x ∧ badR Q = (badR (Q.drop j)).map (· + j) ∧ Kept (fun _ => False) w' wr) (fun i _ _ _ => x - (intOf i).toNat)
            case atStart => exact ⟨0, rfl, by omega, by simp, .refl _ _⟩
            case round =>
              obtain ⟨j, rfl, hj, hbad, hkw⟩ := hrel
              by_cases hjx : j < x
              · have j1 : (j : Int) < x := by omega
                have j2 : (0 : Int) ≤ j := by omega
                have hse := str_end Q j
                rw [hQs] at hse
                have hne : Q.drop j ≠ [] := drop_ne (by omega)
                have hdb : Bytes (Q.drop j) := fun y hy => HT.out.2.1 y (List.mem_of_mem_drop hy)
                have hdec := decode_nums (Q.drop j) hdb hne
                have hUw : Lib.Utf8Tabs 1 2 wr := Utf8Tabs.kept HU.out hkw (by simp) (by simp)
                have hcall := Tryd.utf8_DecodeRuneInString (strOfNums (Q.drop j)) wr hUw
                have hwr : ∀ w2, Below wr.heap.size wr w2 → Kept (fun _ => False) w' w2 := fun w2 hb => hkw.trans (Kept.of_below hb _) (fun _ _ e => e) (fun _ _ e => e)
                obtain ⟨R, hR⟩ : ∃ R, R = (Lib.decodeGo (strOfNums (Q.drop j))).1 := ⟨_, rfl⟩
                obtain ⟨K, hK⟩ : ∃ K, K = (Lib.decodeGo (strOfNums (Q.drop j))).2 := ⟨_, rfl⟩
                rw [← hR, ← hK] at hcall
                by_cases hr0 : rn (Q.drop j) = 0
                · have he := hdec.1 hr0
                  rw [he] at hR hK
                  subst hR hK
                  have HR : Hid (textR l n M = .err ((F : Int) + j) 14) := Lib.hid (by rw [HT.out.1, hbad, badR_bad hne hr0]; simp)
                  have HW := Lib.hid hwr
                  clear hne hbad hkw he hdec hr0 hwr
                  go_wp2_with fail
                  refine hcall.mono ?_
                  rintro e w2 ⟨rfl, hbw⟩
                  have HK := Lib.hid (HW.out _ hbw)
                  clear hbw hcall
                  go_wp2_with (go_at_call 40; refine (wrong_any _ _ _).mono ?_; rintro e w' ⟨rfl, rfl⟩)
                  go_ret2
                  exact TextPost.bad HR.out rfl HK.out
                · have he := hdec.2 hr0
                  rw [← hR, ← hK] at he
                  have hbad2 : badR Q = (badR (Q.drop (j + K))).map (· + (j + K)) := by
                    rw [hbad, badR_go hne hr0, List.drop_drop, he.1, Option.map_map]
                    congr 1
                    funext i
                    simp only [Function.comp]
                    omega
                  have hKx : j + K ≤ x := by
                    have := rn_le (Q.drop j)
                    rw [List.length_drop] at this
                    omega
                  have hK0 : 0 < K := by omega
                  have HB := Lib.hid (And.intro hbad2 hKx)
                  have HW := Lib.hid hwr
                  have hK3 : (j : Int) + K ≤ x := by omega
                  have hor := he.2
                  clear hne hbad hkw he hdec hr0 hwr hR hK hbad2 hKx
                  by_cases hR1 : R = 65533
                  · have b1 : ((R : Int) == 65533) = true := by rw [beq_iff_eq]; omega
                    have b2 : ((K : Int) == 1) = false := by rw [beq_eq_false_iff_ne]; omega
                    clear hR1 hor
                    go_wp2_with fail
                    refine hcall.mono ?_
                    rintro e w2 ⟨rfl, hbw⟩
                    have HK := Lib.hid (HW.out _ hbw)
                    clear hbw hcall
                    go_wp2_with fail
                    go_roundw
                    case rel => exact ⟨j + K, by go_num, HB.out.2, HB.out.1, HK.out⟩
                    case measure => simp [intOf]; omega
                  · have b1 : ((R : Int) == 65533) = false := by rw [beq_eq_false_iff_ne]; omega
                    clear hR1 hor
                    go_wp2_with fail
                    refine hcall.mono ?_
                    rintro e w2 ⟨rfl, hbw⟩
                    have HK := Lib.hid (HW.out _ hbw)
                    clear hbw hcall
                    go_wp2_with fail
                    go_roundw
                    case rel => exact ⟨j + K, by go_num, HB.out.2, HB.out.1, HK.out⟩
                    case measure => simp [intOf]; omega
              · have j1 : ¬ (j : Int) < x := by omega
                obtain rfl : j = x := by omega
                have HR : Hid (textR l n M = .ok Q (F + j)) := Lib.hid (by rw [HT.out.1, hbad, List.drop_eq_nil_of_le (by omega), badR_nil]; rfl)
                have hrd := H.out.kept hkw (by simp) (by simp)
                have h1w : wr.cell? ⟨r, 1, none⟩ = some (.int .i64 n) := (blk_cell hrd.blk 1).trans rfl
                have hf1 := blk_frozen hrd.blk 1
                have HD := Lib.hid (And.intro hkw hrd)
                clear hbad hkw hrd
                go_wp2_with fail
                go_ret2
                unfold TextPost
                rw [HR.out]
                have hmv := HD.out.2.move (F + j)
                exact ⟨rfl, hmv.1, HD.out.1.trans hmv.2 (fun _ _ e => e.elim) (fun _ _ e => e)⟩
end Go.Proofs.YtkefehceakcgoaaDoor
