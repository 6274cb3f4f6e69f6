/- FrameCut: frames that were cut off anywhere. -/
import Derived.Test.YtoolimfdncfgnaaF2
import Derived.Deep.DeepCutAuto
namespace Go.Proofs.Ytoolimfdncfgnaa
open Go.RowKit
set_option linter.unusedVariables false
set_option linter.unusedSimpArgs false

def endAt (qs : List Par) (j : Nat) : Nat := (frames (qs.take j)).length
theorem frames_split (qs : List Par) (j : Nat) : frames qs = frames (qs.take j) ++ frames (qs.drop j) := by rw [← frames_append, List.take_append_drop]
theorem scan_nil : ScanIs [] [] 0 0 := by unfold ScanIs; simp [scanS]
theorem scan_part (q : Par) (h : q.ok) (m : Nat) (h0 : 0 < m) (hm : m < 24 + q.p.length) : ScanIs (q.frame.take m) [] 0 23 := by
  have hl : (q.frame.take m).length = m := by rw [List.length_take, q.frame_len]; omega
  unfold ScanIs
  rw [hl, scanS, hl, if_pos h0, List.drop_zero]
  by_cases h24 : m < 24
  · have : headS (q.frame.take m) = .torn := by unfold headS; rw [if_pos (by omega)]
    rw [this]
  · have hh := headS_frame q h []
    rw [List.append_nil] at hh
    rw [headS_take _ _ (by omega) (by rw [q.frame_len]; omega), hh]
    simp only
    rw [if_pos (by omega)]
theorem scan_cut (qs : List Par) (h : ∀ q ∈ qs, q.ok) (j N : Nat) (hj : j ≤ qs.length) (h1 : endAt qs j ≤ N) (hN : N ≤ (frames qs).length) (h2 : ∀ q, qs[j]? = some q → N < endAt qs (j + 1)) :
    ScanIs ((frames qs).take N) (wants 0 (qs.take j)) (endAt qs j) (if endAt qs j = N then 0 else 23) := by
  have hs := frames_split qs j
  have hlen : (frames qs).length = endAt qs j + (frames (qs.drop j)).length := by rw [hs, List.length_append]; rfl
  have e : (frames qs).take N = frames (qs.take j) ++ (frames (qs.drop j)).take (N - endAt qs j) := by
    rw [hs, List.take_append, List.take_of_length_le (by unfold endAt at h1; exact h1)]; rfl
  have hok : ∀ q ∈ qs.take j, q.ok := fun q hq => h q (List.mem_of_mem_take hq)
  rw [e]
  by_cases hE : endAt qs j = N
  · rw [if_pos hE, hE, Nat.sub_self, List.take_zero]
    have := scanIs_joined hok scan_nil
    simp only [List.map_nil, List.append_nil, Nat.add_zero] at this ⊢
    rw [← hE]
    exact this
  · rw [if_neg hE]
    rcases hd : qs.drop j with _ | ⟨q, qs'⟩
    · rw [hd] at hlen
      rw [show frames ([] : List Par) = [] from rfl, List.length_nil] at hlen
      omega
    · have hqj : qs[j]? = some q := by
        have := congrArg (fun l => l[0]?) hd
        simpa using this
      have h3 := h2 q hqj
      have h4 := congrArg List.length (frames_take qs j q hqj).1
      rw [List.length_append, q.frame_len] at h4
      have hm : N - endAt qs j < 24 + q.p.length := by unfold endAt at h3 ⊢; omega
      have hq := h q (List.mem_of_getElem? hqj)
      have e2 : (frames (q :: qs')).take (N - endAt qs j) = q.frame.take (N - endAt qs j) := by
        rw [frames_cons, List.take_append_of_le_length (by rw [q.frame_len]; omega)]
      rw [e2]
      have := scanIs_joined hok (scan_part q hq _ (by omega) hm)
      simp only [List.map_nil, List.append_nil, Nat.add_zero] at this
      exact this
theorem wants_take (qs : List Par) (j : Nat) : wants 0 (qs.take j) = (wants 0 qs).take j := by
  have hw := wants_append 0 (qs.take j) (qs.drop j)
  rw [List.take_append_drop] at hw
  rcases Nat.lt_or_ge j qs.length with h | h
  · have := congrArg (List.take j) hw
    rw [List.take_left' (by rw [wants_len, List.length_take]; omega)] at this
    exact this.symm
  · rw [List.take_of_length_le h, List.take_of_length_le (by rw [wants_len]; exact h)]
theorem wants_get (qs : List Par) (j : Nat) (q : Par) (h : qs[j]? = some q) : (wants 0 qs)[j]? = some ⟨kindOf q.k, q.s, endAt qs j + 24, q.p.length⟩ ∧ endAt qs j + 24 + q.p.length = endAt qs (j + 1) := by
  obtain ⟨h1, h2⟩ := frames_take qs j q h
  have hlt := (List.getElem?_eq_some_iff.1 h).1
  refine ⟨?_, ?_⟩
  · have h3 : (wants 0 (qs.take (j + 1)))[j]? = some ⟨kindOf q.k, q.s, endAt qs j + 24, q.p.length⟩ := by
      rw [h2, List.getElem?_append_right (by rw [wants_len, List.length_take]; omega), wants_len, List.length_take, Nat.min_eq_left (by omega), Nat.sub_self]
      rfl
    rw [wants_take, List.getElem?_take, if_pos (by omega)] at h3
    exact h3
  · have := congrArg List.length h1
    rw [List.length_append, q.frame_len] at this
    unfold endAt
    omega
theorem pcells_take (ps : List Pc) (j : Nat) : pcells (ps.take j) = (pcells ps).take (j * 4) := by
  have : pcells ps = pcells (ps.take j) ++ pcells (ps.drop j) := by rw [← pcells_append, List.take_append_drop]
  rcases Nat.lt_or_ge j ps.length with h | h
  · have := congrArg (List.take (j * 4)) this
    rw [List.take_left' (by rw [pcells_len, List.length_take]; omega)] at this
    exact this.symm
  · rw [List.take_of_length_le h, List.take_of_length_le (by rw [pcells_len]; omega)]
theorem PReads.take {w : World} {A : Option Addr} {c : Nat} {ps : List Pc} (h : PReads w (.slice A ps.length c) ps) (j : Nat) (hj : j ≤ ps.length) : PReads w (.slice A j c) (ps.take j) := by
  obtain ⟨A', c', e, hl, hc⟩ := h
  injection e with e1 _ e3
  subst e1; subst e3
  have hjl : (ps.take j).length = j := by rw [List.length_take]; omega
  refine ⟨A, c, by rw [hjl], by omega, fun h0 => ?_⟩
  obtain ⟨g, rfl, hp⟩ := hc (by omega)
  refine ⟨g, rfl, fun i u hu => hp i u ?_⟩
  rw [pcells_take, List.getElem?_take] at hu
  split at hu
  · exact hu
  · cases hu
theorem Reads.take {w : World} {A : Option Addr} {c : Nat} {l : List Int} (h : Reads w (.slice A l.length c) l) (j : Nat) (hj : j ≤ l.length) : Reads w (.slice A j c) (l.take j) := by
  obtain ⟨A', c', e, h0, hc⟩ := h
  injection e with e1 _ e3
  subst e1; subst e3
  have hjl : (l.take j).length = j := by rw [List.length_take]; omega
  refine ⟨A, c, by rw [hjl], ⟨h0.1, by rw [hjl]; have := h0.2; omega⟩, fun i u hu => hc i u ?_⟩
  rw [nums, List.map_take] at hu
  have hu' : ((nums .u8 l).take j)[i]? = some u := hu
  rw [List.getElem?_take] at hu'
  split at hu'
  · exact hu'
  · cases hu'

set_option maxHeartbeats 16000000 in
set_option maxRecDepth 100000 in
theorem cut_any (qs : List Par) (v : Value) (at_ : Int) (w : World) (hok : ∀ q ∈ qs, q.ok1) (hp : PsReads w v qs) (hT : (frames qs).length ≤ 100000000) (hq : qs.length ≤ 10000000)
    (ha : -9223372036854775808 ≤ at_) (ha2 : at_ ≤ 9223372036854775807) : Calls Try.prog 10 #[v, .int .i64 at_] w (True1 w) := by
  have hqo : ∀ q ∈ qs, q.ok := fun q h => (hok q h).1
  have hFb := frames_bytes hqo
  obtain ⟨F, hF⟩ : ∃ F, F = frames qs := ⟨_, rfl⟩
  obtain ⟨W, hW⟩ : ∃ W, W = wants 0 qs := ⟨_, rfl⟩
  have hWl : W.length = qs.length := by rw [hW, wants_len]
  have HLA := Lib.hid (fun W' h => laid_any qs v W' hok (hp.kept (w := w) (w' := W') h) hT hq)
  have hpk := pickS_lt at_ (F.length + 1) (by omega)
  obtain ⟨N, hN⟩ : ∃ N : Nat, pickS at_ ((F.length : Int) + 1) = N := ⟨_, (Int.toNat_of_nonneg hpk.1).symm⟩
  have hNl : N ≤ F.length := by omega
  have HS := Lib.hid (And.intro hqo (And.intro hF (And.intro hW (And.intro hWl hN))))
  rw [← hF] at hT hFb
  clear hok hp hqo hF hW hWl hpk hN
  have hfl1 : IntKind.i64.wrap ((F.length : Int) + 1) = (F.length : Int) + 1 := IntWalk.i64_in _ (by omega)
  go_enter Try.func10, Try.ntmps10
  go_wp2_with fail
  refine (shown_any w).mono ?_
  rintro e w1 ⟨rfl, hk1⟩
  have K1 := Lib.hid hk1
  clear hk1
  go_wp2_with fail
  refine (HLA.out w1 K1.out).mono ?_
  rintro e w2 ⟨Ab, cb, Aw, cw, rfl, hob, how, hk2⟩
  rw [← HS.out.2.1] at hob ⊢
  rw [← HS.out.2.2.1] at how ⊢
  have K2 := Lib.hid (And.intro hk2 (And.intro hob how))
  clear hk2 hob how
  go_wp2_with fail
  refine (pick_any at_ ((F.length : Int) + 1) w2 ha ha2 (by omega) (by omega)).mono ?_
  rintro e w' ⟨rfl, hw'⟩
  obtain rfl : w2 = w' := hw'.symm
  rw [HS.out.2.2.2.2]
  clear hw' hfl1
  go_wp2_with fail
  go_loopw [10, 11] (fun i en wr => ∃ j : Nat, i = .int .i64 j ∧ en = .int .i64 (endAt qs j) ∧ j ≤ W.length ∧ endAt qs j ≤ N ∧ ∃ d, wr = w2.drewN d) (fun i _ _ => W.length - (intOf i).toNat)
  case atStart => exact ⟨0, rfl, by simp [endAt, frames], by omega, by simp [endAt, frames], 0, rfl⟩
  case round =>
    obtain ⟨j, rfl, rfl, hj, hle, d, rfl⟩ := hrel
    have hend : endAt qs j ≤ 100000000 := by omega
    obtain ⟨V, hV⟩ : ∃ V, V = w2.drewN d := ⟨_, rfl⟩
    have hkV : Kept (fun _ => False) w2 V := by rw [hV]; exact .drewN _ _ _
    have HV := Lib.hid (And.intro hV hkV)
    rw [← hV]
    clear hV hkV
    have hjq : W.length = qs.length := HS.out.2.2.2.1
    have HJ := Lib.hid hjq
    clear hjq
    go_upto_region 8 with fail
    go_cut [53] (fun s wx => s = .bool (decide (j < W.length ∧ endAt qs (j + 1) ≤ N)) ∧ ∃ d', wx = V.drewN d')
    case first =>
      by_cases hjl : j < W.length
      · obtain ⟨q, hqj⟩ : ∃ q, qs[j]? = some q := ⟨_, List.getElem?_eq_getElem (by have := HJ.out; omega)⟩
        obtain ⟨g1, g2⟩ := wants_get qs j q hqj
        rw [← HS.out.2.2.1] at g1
        have how := own_kept K2.out.2.2 HV.out.2 (fun _ _ => id)
        obtain ⟨_, _, e1, hcw, hnw, hAw⟩ := own_at how
        injection e1 with eA _ ec
        subst eA; subst ec
        obtain ⟨gw, rfl⟩ := hAw (by omega)
        obtain ⟨-, -, a2, a3⟩ := pcells_at _ j _ g1
        have c2 := how.cells rfl _ _ a2
        have c3 := how.cells rfl _ _ a3
        simp only [add_lit', Nat.zero_add] at c2 c3
        have e24 : ((endAt qs j + 24 : Nat) : Int) = (endAt qs j : Int) + 24 := by omega
        rw [e24] at c2
        have hle2 : endAt qs (j + 1) ≤ F.length := by
          have := frames_take_le qs j q hqj
          rw [← HS.out.2.1] at this
          unfold endAt at g2 ⊢
          omega
        have hb2 : (endAt qs j : Int) + 24 + q.p.length ≤ 100000000 := by omega
        have hb3 : (0 : Int) ≤ (endAt qs j : Int) + 24 := by omega
        have n1 : (j : Int) < W.length := by omega
        have n2 : (0 : Int) ≤ j := by omega
        have G2 := Lib.hid g2
        by_cases hgo : endAt qs (j + 1) ≤ N
        · have hgo2 : (endAt qs j : Int) + 24 + q.p.length ≤ N := by omega
          have HD := Lib.hid (decide_eq_true (p := j < W.length ∧ endAt qs (j + 1) ≤ N) ⟨hjl, hgo⟩)
          clear how a2 a3 g1 g2 hqj e24 hle2 hgo
          go_quiet (fail)
          go_wp2_with fail
          go_meet
          exact ⟨congrArg Value.bool HD.out.symm, _, rfl⟩
        · have hgo2 : ¬ (endAt qs j : Int) + 24 + q.p.length ≤ N := by omega
          have HD := Lib.hid (decide_eq_false (p := j < W.length ∧ endAt qs (j + 1) ≤ N) (fun h => hgo h.2))
          clear how a2 a3 g1 g2 hqj e24 hle2 hgo
          go_quiet (fail)
          go_wp2_with fail
          go_meet
          exact ⟨congrArg Value.bool HD.out.symm, _, rfl⟩
      · have n1 : ¬ (j : Int) < W.length := by omega
        have n3 : decide ((j : Int) < W.length) = false := decide_eq_false n1
        have n4 : decide (j < W.length) = false := decide_eq_false hjl
        have HD := Lib.hid (decide_eq_false (p := j < W.length ∧ endAt qs (j + 1) ≤ N) (fun h => hjl h.1))
        go_quiet (fail)
        go_wp2_with fail
        go_meet
        exact ⟨congrArg Value.bool HD.out.symm, _, rfl⟩
    case rest =>
      obtain ⟨rfl, d', hwc⟩ := hcut
      have hkc : Kept (fun _ => False) w2 wc := by rw [hwc]; exact kdn HV.out.2 _
      have hwd : ∃ d, wc = w2.drewN d := by rw [hwc, HV.out.1]; exact ⟨_, by rw [World.drewN_drewN]⟩
      have HC := Lib.hid (And.intro hkc hwd)
      clear hwc hkc hwd
      by_cases hc : j < W.length ∧ endAt qs (j + 1) ≤ N
      · obtain ⟨hjl, hgo⟩ := id hc
        obtain ⟨q, hqj⟩ : ∃ q, qs[j]? = some q := ⟨_, List.getElem?_eq_getElem (by have := HJ.out; omega)⟩
        obtain ⟨g1, g2⟩ := wants_get qs j q hqj
        rw [← HS.out.2.2.1] at g1
        have how := own_kept K2.out.2.2 HC.out.1 (fun _ _ => id)
        obtain ⟨_, _, e1, hcw, hnw, hAw⟩ := own_at how
        injection e1 with eA _ ec
        subst eA; subst ec
        obtain ⟨gw, rfl⟩ := hAw (by omega)
        obtain ⟨-, -, a2, a3⟩ := pcells_at _ j _ g1
        have c2 := how.cells rfl _ _ a2
        have c3 := how.cells rfl _ _ a3
        simp only [add_lit', Nat.zero_add] at c2 c3
        have e24 : ((endAt qs j + 24 : Nat) : Int) = (endAt qs j : Int) + 24 := by omega
        rw [e24] at c2
        have hb2 : (endAt qs j : Int) + 24 + q.p.length ≤ 100000000 := by omega
        have hb3 : (0 : Int) ≤ (endAt qs j : Int) + 24 := by omega
        have n1 : (j : Int) < W.length := by omega
        have n2 : (0 : Int) ≤ j := by omega
        have G2 := Lib.hid (And.intro g2 hgo)
        rw [decide_eq_true hc]
        clear how a2 a3 g1 g2 hqj e24 hgo hc
        go_wp2_with fail
        go_quiet (fail)
        have HE : Hid (∃ d, wc.drewN nq = w2.drewN d) := Lib.hid (by obtain ⟨d0, e0⟩ := HC.out.2; rw [e0, World.drewN_drewN]; exact ⟨_, rfl⟩)
        go_wp2_with fail
        exact ⟨⟨j + 1, by congr 1, by congr 1; have := G2.out.1; omega, by omega, G2.out.2, HE.out⟩, by simp [intOf]; omega⟩
      · have hsc : ScanIs (F.take N) (W.take j) (endAt qs j) (if endAt qs j = N then 0 else 23) := by
          rw [HS.out.2.1, HS.out.2.2.1, ← wants_take]
          refine scan_cut qs HS.out.1 j N (by have := HJ.out; omega) hle (by rw [← HS.out.2.1]; omega) fun q hqj => ?_
          have hjl := (List.getElem?_eq_some_iff.1 hqj).1
          have hJ := HJ.out
          rcases Nat.lt_or_ge N (endAt qs (j + 1)) with h | h
          · exact h
          · exact absurd ⟨by omega, h⟩ hc
        have hjl' : (W.take j).length = j := by rw [List.length_take]; omega
        have hob := own_kept K2.out.2.1 HC.out.1 (fun _ _ => id)
        have hrb : Reads wc (.slice Ab N cb) (F.take N) := (Lies.of_own hob).reads.take N hNl
        obtain ⟨_, _, e1, hcb, hnb, _⟩ := own_at hob
        injection e1 with eA _ ec
        subst eA; subst ec
        obtain ⟨_, _, e1, hcw, hnw, _⟩ := own_at K2.out.2.2
        injection e1 with eA _ ec
        subst eA; subst ec
        rw [decide_eq_false hc]
        have n1 : (N : Int) ≤ cb := by omega
        have n2 : (j : Int) ≤ cw := by omega
        have hFN : Bytes (F.take N) := hFb.take N
        have hlN : (F.take N).length ≤ 4294967296 := by rw [List.length_take]; omega
        have hwr := (own_preads K2.out.2.2).take j hj
        obtain ⟨T, hT'⟩ : ∃ T, T = W.take j := ⟨_, rfl⟩
        obtain ⟨R, hR'⟩ : ∃ R, R = F.take N := ⟨_, rfl⟩
        rw [← hT', ← hR'] at hsc
        rw [← hR'] at hrb hFN hlN
        rw [← hT'] at hwr
        clear hT' hR' hjl' hob
        by_cases hE : endAt qs j = N
        · rw [if_pos hE] at hsc
          have hE2 : ((endAt qs j : Int) == N) = true := by rw [beq_iff_eq]; omega
          have HSC := Lib.hid (And.intro hsc (And.intro hrb hwr))
          clear hsc hrb hc hE hwr
          go_wp2_with fail
          refine (scanG _ R wc HSC.out.1 hlN hFN HSC.out.2.1 (by intro A n c h; injection h; omega)).mono ?_
          rintro e w3 ⟨Ax, cx, rfl, hox, hk3⟩
          have K3 := Lib.hid (And.intro hk3 hox)
          clear hk3 hox
          go_wp2_with fail
          refine (same_any _ _ T w3 (own_preads K3.out.2) (HSC.out.2.2.kept (kt HC.out.1 K3.out.1))).mono ?_
          rintro e w4 ⟨rfl, d4, hd4⟩
          have K4 : Hid (Kept (fun _ => False) w w4) := Lib.hid (by rw [hd4]; exact kdn (kt K1.out (kt K2.out.1 (kt HC.out.1 K3.out.1))) _)
          clear hd4
          go_wp2_with fail
          go_ret
          exact ⟨rfl, K4.out⟩
        · rw [if_neg hE] at hsc
          have hE2 : ((endAt qs j : Int) == N) = false := by rw [beq_eq_false_iff_ne]; omega
          have HSC := Lib.hid (And.intro hsc (And.intro hrb hwr))
          clear hsc hrb hc hE hwr
          go_wp2_with fail
          refine (scanG _ R wc HSC.out.1 hlN hFN HSC.out.2.1 (by intro A n c h; injection h; omega)).mono ?_
          rintro e w3 ⟨Ax, cx, rfl, hox, hk3⟩
          have K3 := Lib.hid (And.intro hk3 hox)
          clear hk3 hox
          go_wp2_with fail
          refine (same_any _ _ T w3 (own_preads K3.out.2) (HSC.out.2.2.kept (kt HC.out.1 K3.out.1))).mono ?_
          rintro e w4 ⟨rfl, d4, hd4⟩
          have K4 : Hid (Kept (fun _ => False) w w4) := Lib.hid (by rw [hd4]; exact kdn (kt K1.out (kt K2.out.1 (kt HC.out.1 K3.out.1))) _)
          clear hd4
          go_wp2_with fail
          go_ret
          exact ⟨rfl, K4.out⟩
end Go.Proofs.Ytoolimfdncfgnaa
