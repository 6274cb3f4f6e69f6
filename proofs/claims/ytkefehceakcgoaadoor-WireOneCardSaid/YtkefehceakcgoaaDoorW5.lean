/- WireOne: one form (the walk). -/
import Derived.Test.YtkefehceakcgoaaDoorW4
import Derived.Test.YtkefehceakcgoaaDoorV12
namespace Go.Proofs.YtkefehceakcgoaaDoor
open Go.RowKit
set_option linter.unusedVariables false
set_option linter.unusedSimpArgs false

/-- Asks that came in. -/
def AsReads (w : World) (v : Value) (qs : List Ask) : Prop :=
  ∃ A c, v = .slice A qs.length c ∧ (0 < qs.length → ∃ b off, A = some ⟨b, off, none⟩ ∧ ∀ (i : Nat) q, qs[i]? = some q →
    w.cell? ⟨b, off + i * 2, none⟩ = some (.int .i64 q.k) ∧ w.cell? ⟨b, off + i * 2 + 1, none⟩ = some (.int .i64 q.n))
def TruePost1 (w : World) (e : Ending) (w' : World) : Prop := e = .returned (.bool true) ∧ Kept (fun _ => False) w w'
set_option maxHeartbeats 16000000 in
set_option maxRecDepth 100000 in
theorem wireOne_any (L : List Int) (qs : List Ask) (v : Value) (w : World) (hb : Bytes L) (hL : L.length ≤ 140737488351232) (hok : ∀ q ∈ qs, q.ok) (hr : AsReads w v qs) (hU : Lib.Utf8Tabs 1 2 w) (hg : Handle w) (hlen : qs.length ≤ 140737488351232) :
    Calls Tryd.prog 4 #[.string (strOfNums L), v] w (TruePost1 w) := by
  obtain ⟨A, c, rfl, hcs⟩ := hr
  have HC := Lib.hid (And.intro hok (And.intro hcs (And.intro hU hg)))
  have hsL : (strOfNums L).size = L.length := strOfNums_size L
  clear hok hcs hU hg
  go_enter Tryd.func4, Tryd.ntmps4
  go_wp2_with fail
  refine (awake_any w).mono ?_
  rintro e w1 ⟨rfl, hk1⟩
  obtain ⟨Cp, w2, hcv, hrd, hk2⟩ := bytes_conv (P := Tryd.prog) (src := 9) (dst := 35) (e := 5) w1 L hb Tryd.underlying9 Tryd.underlying35 Tryd.underlying5
  have H2 := Lib.hid (And.intro hrd (hk1.trans hk2 (U := fun _ => False) (fun _ _ e => e) (fun _ _ e => e)))
  clear hk1 hk2 hrd
  go_wp2_with fail
  refine (newReader_any _ L w2 H2.out.1 (by omega)).mono ?_
  rintro e w3 ⟨r, vr, rfl, hR3, hk3⟩
  have hrw : w.heap.size ≤ r := Nat.le_trans H2.out.2.size hR3.base
  have H3 := Lib.hid (And.intro hR3 (H2.out.2.trans hk3 (U := fun _ => False) (fun _ _ e => e) (fun _ _ e => e)))
  clear hR3 hk3 H2 hcv
  go_wp2_with fail
  go_loopw [7] (fun i W => ∃ k n : Nat, i = .int .i64 k ∧ k ≤ qs.length ∧ n ≤ L.length ∧ RdAt w2.heap.size W r vr L n ∧ Kept (fun _ => False) w W) (fun i _ => qs.length - (intOf i).toNat)
  case atStart => exact ⟨0, 0, rfl, by omega, by omega, H3.out.1, H3.out.2⟩
  case round =>
    obtain ⟨k, n, rfl, hk, hn, hrd, hkw⟩ := hrel
    by_cases hend : k < qs.length
    · obtain ⟨q, hq⟩ : ∃ q, qs[k]? = some q := ⟨_, List.getElem?_eq_getElem hend⟩
      obtain ⟨b, off, rfl, hcells⟩ := HC.out.2.1 (by omega)
      obtain ⟨x0, x1⟩ := hcells k q hq
      have y0 := cell_kept hkw x0
      have y1 := cell_kept hkw x1
      have hqo := HC.out.1 q (List.mem_of_getElem? hq)
      have hUr := Utf8Tabs.kept HC.out.2.2.1 hkw (by simp) (by simp)
      have hgr := HC.out.2.2.2.kept hkw (by simp)
      have HQ := Lib.hid (And.intro hqo (And.intro hrd (And.intro hkw (And.intro hUr (And.intro hgr (And.intro x0 x1))))))
      have k1 : (k : Int) < qs.length := by omega
      have k0 : (0 : Int) ≤ k := by omega
      clear hq hqo hrd hkw hUr hgr hcells x0 x1 hend
      go_wp2_with fail
      refine (at_any _ r n vr L wr HQ.out.2.1 hn (by omega)).mono ?_
      rintro e w' ⟨rfl, hw'⟩
      obtain rfl : wr = w' := hw'.symm
      clear hw'
      go_wp2_with fail
      refine (pick_any q.k 3 wr (by decide) (by decide) HQ.out.1.k0 HQ.out.1.k1).mono ?_
      rintro e w' ⟨rfl, hw'⟩
      obtain rfl : wr = w' := hw'.symm
      clear hw'
      have hp3 := pickN_lt q.k 3 (by decide)
      obtain ⟨pk, hpk⟩ : ∃ pk, pk = pickN q.k 3 := ⟨_, rfl⟩
      have HPK := Lib.hid hpk
      rw [← hpk] at hp3 ⊢
      clear hpk
      go_wp2_with fail
      refine (read_any _ r n vr L q wr HQ.out.1 HQ.out.2.1 hn (by omega) hb HQ.out.2.2.2.1).mono ?_
      intro e w4 hrp
      unfold ReadPost at hrp
      rcases hrr : readR L n q with ⟨u, i, s, m⟩ | ⟨a, no⟩
      · rw [hrr] at hrp
        obtain ⟨rfl, hr4, hk4⟩ := hrp
        obtain ⟨g1, g2, g3, g4, g5, g6, g7, g8⟩ := readR_ok hb hn hrr
        have hsub : (strOfNums L).extract n m = strOfNums (bytesR pk u i s) := by
          have := str_mid L n (m - n)
          rw [show n + (m - n) = m by omega, g3, ← HPK.out] at this
          exact this
        have hkw4 : Kept (fun _ => False) w w4 := HQ.out.2.2.1.trans hk4 (fun _ _ e => e) (fun i hi e => by omega)
        have H4 := Lib.hid (And.intro hr4 hkw4)
        have m1 : ¬ (m : Int) < n := by omega
        have m2 : ¬ (L.length : Int) < m := by omega
        have m3 : (n : Int) ≤ m := by omega
        have m4 : (m : Int) ≤ L.length := by omega
        have m5 : (0 : Int) ≤ n := by omega
        clear hr4 hkw4 hk4 hrr g1 g3
        go_wp2_with fail
        refine (fault_nil w4).mono ?_
        rintro e w' ⟨rfl, hw'⟩
        obtain rfl : w4 = w' := hw'.symm
        clear hw'
        go_wp2_with fail
        refine (at_any _ r m vr L w4 H4.out.1 (by omega) (by omega)).mono ?_
        rintro e w' ⟨rfl, hw'⟩
        obtain rfl : w4 = w' := hw'.symm
        clear hw'
        go_wp2_with fail
        refine (left_any _ r m vr L w4 H4.out.1 (by omega) (by omega)).mono ?_
        rintro e w5 ⟨rfl, hk5⟩
        have hr5 := H4.out.1.kept hk5 (by simp) (by simp)
        have H5 := Lib.hid (And.intro hr5 (H4.out.2.trans hk5 (U := fun _ => False) (fun _ _ e => e) (fun _ _ e => e)))
        have hlf : ((L.length - m : Nat) : Int) = (L.length : Int) - m := by omega
        rw [hlf]
        clear hr5 hk5 hlf
        go_wp2_with fail
        refine (bytesOf_any pk u i s w5 hp3 g4 g5 g6 g7 (by omega)).mono ?_
        rintro e w6 ⟨rfl, hk6⟩
        have hr6 := H5.out.1.kept hk6 (by simp) (by simp)
        have H6 := Lib.hid (And.intro hr6 (H5.out.2.trans hk6 (U := fun _ => False) (fun _ _ e => e) (fun _ _ e => e)))
        clear hr6 hk6
        go_wp2_with fail
        go_roundw
        case rel => exact ⟨k + 1, m, by go_num, by omega, g2, H6.out.1, H6.out.2⟩
        case measure => simp [intOf]; omega
      · rw [hrr] at hrp
        obtain ⟨err, rfl, fb, rfl, hfb, hbf, hk4⟩ := hrp
        obtain ⟨g1, g2, g3⟩ := readR_err hn hrr
        have hno : no ≠ 0 := by omega
        have hkw4 : Kept (fun _ => False) w w4 := HQ.out.2.2.1.trans hk4 (fun _ _ e => e) (fun _ _ e => e)
        have hr4 := HQ.out.2.1.kept hk4 (by simp) (by simp)
        have H4 := Lib.hid (And.intro hr4 (And.intro hkw4 (And.intro hbf (HQ.out.2.2.2.2.1.kept hk4 (by simp)))))
        have nb : (no == 0) = false := by rw [beq_eq_false_iff_ne]; exact hno
        have m1 : ¬ a < (n : Int) := by omega
        have m2 : ¬ (L.length : Int) < a := by omega
        have m3 : ¬ (L.length : Int) < n := by omega
        have HR := Lib.hid hrr
        clear hr4 hkw4 hk4 hbf g3 hfb hrr
        go_wp2_with fail
        refine (fault_any fb a no w4 H4.out.2.2.1 H4.out.2.2.2 hno).mono ?_
        rintro e w5 ⟨rfl, hk5⟩
        have H5 := Lib.hid (And.intro (H4.out.1.kept hk5 (by simp) (by simp)) (H4.out.2.1.trans hk5 (U := fun _ => False) (fun _ _ e => e) (fun _ _ e => e)))
        clear hk5
        go_wp2_with fail
        refine (at_any _ r n vr L w5 H5.out.1 hn (by omega)).mono ?_
        rintro e w' ⟨rfl, hw'⟩
        obtain rfl : w5 = w' := hw'.symm
        clear hw'
        go_wp2_with fail
        refine (left_any _ r n vr L w5 H5.out.1 hn (by omega)).mono ?_
        rintro e w6 ⟨rfl, hk6⟩
        have hkw6 := H5.out.2.trans hk6 (U := fun _ => False) (fun _ _ e => e) (fun _ _ e => e)
        have z0 := cell_kept hkw6 HQ.out.2.2.2.2.2.1
        have z1 := cell_kept hkw6 HQ.out.2.2.2.2.2.2
        have H6 := Lib.hid (And.intro (H5.out.1.kept hk6 (by simp) (by simp)) (And.intro hkw6 (And.intro (Utf8Tabs.kept HC.out.2.2.1 hkw6 (by simp) (by simp)) (HC.out.2.2.2.kept hkw6 (by simp)))))
        have hlf : ((L.length - n : Nat) : Int) = (L.length : Int) - n := by omega
        rw [hlf]
        clear hk6 hkw6 hlf
        go_wp2_with fail
        refine (read_any _ r n vr L q w6 HQ.out.1 H6.out.1 hn (by omega) hb H6.out.2.2.1).mono ?_
        intro e w7 hrp
        unfold ReadPost at hrp
        rw [HR.out] at hrp
        obtain ⟨err, rfl, fb2, rfl, hfb, hbf, hk7⟩ := hrp
        have hkw7 := H6.out.2.1.trans hk7 (U := fun _ => False) (fun _ _ e => e) (fun _ _ e => e)
        have H7 := Lib.hid (And.intro (H6.out.1.kept hk7 (by simp) (by simp)) (And.intro hkw7 (And.intro hbf (H6.out.2.2.2.kept hk7 (by simp)))))
        clear hkw7 hk7 hbf hfb
        go_wp2_with fail
        refine (fault_any fb2 a no w7 H7.out.2.2.1 H7.out.2.2.2 hno).mono ?_
        rintro e w8 ⟨rfl, hk8⟩
        have H8 := Lib.hid (And.intro (H7.out.1.kept hk8 (by simp) (by simp)) (H7.out.2.1.trans hk8 (U := fun _ => False) (fun _ _ e => e) (fun _ _ e => e)))
        clear hk8
        go_wp2_with fail
        refine (left_any _ r n vr L w8 H8.out.1 hn (by omega)).mono ?_
        rintro e w9 ⟨rfl, hk9⟩
        have H9 := Lib.hid (And.intro (H8.out.1.kept hk9 (by simp) (by simp)) (H8.out.2.trans hk9 (U := fun _ => False) (fun _ _ e => e) (fun _ _ e => e)))
        clear hk9
        by_cases hx : L.length - n = 0
        · rw [hx]
          go_wp2_with fail
          refine (getRaw_any _ r n vr L 0 w9 H9.out.1 hn (by omega) (by omega) (by omega)).mono ?_
          intro e w10 hrp
          unfold RawPost at hrp
          have hraw : rawR L n 0 = .ok ((L.drop n).take 0) (n + 0) := by unfold rawR; rw [if_neg (by omega), if_neg (by omega)]; rfl
          rw [hraw] at hrp
          obtain ⟨v10, rfl, ho10, hr10, hk10⟩ := hrp
          have H10 := Lib.hid (And.intro hr10 (H9.out.2.trans hk10 (U := fun _ => False) (fun _ _ e => e) (fun i hi e => by omega)))
          clear hraw ho10 hr10 hk10
          go_wp2_with fail
          go_roundw
          case rel => exact ⟨k + 1, n + 0, by go_num, by omega, by omega, H10.out.1, H10.out.2⟩
          case measure => simp [intOf]; omega
        · have hx1 : (1 : Int) ≤ ((L.length - n : Nat) : Int) := by omega
          have hx2 : min (1 : Int) ((L.length - n : Nat) : Int) = 1 := by omega
          go_wp2_with fail
          refine (getRaw_any _ r n vr L 1 w9 H9.out.1 hn (by omega) (by omega) (by omega)).mono ?_
          intro e w10 hrp
          unfold RawPost at hrp
          have hraw : rawR L n 1 = .ok ((L.drop n).take 1) (n + 1) := by unfold rawR; rw [if_neg (by omega), if_neg (by omega)]; rfl
          rw [hraw] at hrp
          obtain ⟨v10, rfl, ho10, hr10, hk10⟩ := hrp
          have H10 := Lib.hid (And.intro hr10 (H9.out.2.trans hk10 (U := fun _ => False) (fun _ _ e => e) (fun i hi e => by omega)))
          clear hraw ho10 hr10 hk10
          go_wp2_with fail
          go_roundw
          case rel => exact ⟨k + 1, n + 1, by go_num, by omega, by omega, H10.out.1, H10.out.2⟩
          case measure => simp [intOf]; omega
    · have k1 : ¬ (k : Int) < qs.length := by omega
      have HK := Lib.hid hkw
      clear hkw hend
      go_wp2_with fail
      go_ret
      exact ⟨rfl, HK.out⟩
end Go.Proofs.YtkefehceakcgoaaDoor
