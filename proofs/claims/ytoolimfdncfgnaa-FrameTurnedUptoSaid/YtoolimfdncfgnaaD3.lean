/- FrameScans: the document's Scan, whatever is handed in. -/
import Derived.Test.YtoolimfdncfgnaaD2
import Derived.Test.YtoolimfdncfgnaaP2
import Derived.Test.YtoolimfdncfgnaaB4
namespace Go.Proofs.Ytoolimfdncfgnaa
open Go.RowKit
set_option linter.unusedVariables false
set_option linter.unusedSimpArgs false

theorem refScan_reads (v : Value) (l : List Int) (w : World) (hl : l.length ≤ 4294967296) (hb : Bytes l) (hr : Reads w v l) (hcm : ∀ A n c, v = .slice A n c → c ≤ 9223372036854775807) :
    Calls Try.prog 25 #[v] w (ScanPost l w) := by
  rcases Nat.eq_zero_or_pos l.length with h0 | h0
  · obtain rfl : l = [] := List.eq_nil_of_length_eq_zero h0
    obtain ⟨A, c, rfl, -⟩ := hr
    go_enter Try.func25, Try.ntmps25
    go_wp2_with fail
    refine wp_loop_rounds 1 ?_
    rw [rounds_succ]
    go_wp2_with fail
    go_ret3
    exact ⟨_, rfl, World.ownsRow_nil _ _ _ _, .refl _ _⟩
  · obtain ⟨b, off, c, rfl, hc, hh⟩ := reads_here hr h0
    exact refScan_any b off c l w hl hc (hcm _ _ _ rfl) hb hh
theorem scanS_len (l : List Int) : ∀ f n, n ≤ l.length → (scanS l f n).1.length * 24 + n ≤ l.length := by
  intro f
  induction f with
  | zero => intro n h; simpa [scanS] using h
  | succ f ih =>
    intro n h
    rw [scanS]
    split
    · cases hh : headS (l.drop n) with
      | torn => simpa using h
      | bad => simpa using h
      | ok k s m u =>
        simp only
        split
        · simpa using h
        · split
          · rename_i h1 h2 h3
            have h24 := (ok_len hh).1
            have hd : (l.drop n).length = l.length - n := by simp
            have := ih (n + 24 + m) (by omega)
            simp only [List.length_cons]
            omega
          · simpa using h
    · simpa using h
def ScanIs (l : List Int) (ps : List Pc) (n q : Nat) : Prop := scanS l (l.length + 1) 0 = (ps, n, q)
theorem scan_is (l : List Int) : ∃ ps n q, ScanIs l ps n q := ⟨_, _, _, rfl⟩
theorem ScanIs.len {l : List Int} {ps : List Pc} {n q : Nat} (h : ScanIs l ps n q) : ps.length ≤ l.length := by
  have := scanS_len l (l.length + 1) 0 (Nat.zero_le _)
  unfold ScanIs at h
  rw [h] at this
  simp only at this
  omega
def GivesS (ps : List Pc) (n q : Nat) (w : World) (e : Ending) (w' : World) : Prop :=
  ∃ A c, e = .returned (.tuple #[.slice A ps.length c, .int .i64 n, .int .i64 q]) ∧ w'.ownsRow w.heap.size 60 4 (.slice A ps.length c) ps.length (pcells ps) ∧ Kept (fun _ => False) w w'
theorem ScanPost.gives {l : List Int} {ps : List Pc} {n q : Nat} {w w' : World} {e : Ending} (hi : ScanIs l ps n q) (h : ScanPost l w e w') : GivesS ps n q w e w' := by
  obtain ⟨v, rfl, ho, hk⟩ := h
  unfold ScanIs at hi
  rw [hi] at ho ⊢
  obtain ⟨A, c, rfl, _⟩ := own_at ho
  exact ⟨A, c, rfl, ho, hk⟩
theorem scanG (v : Value) (l : List Int) (w : World) {ps : List Pc} {n q : Nat} (hi : ScanIs l ps n q) (hl : l.length ≤ 4294967296) (hb : Bytes l) (hr : Reads w v l) (hcap : ∀ A n c, v = .slice A n c → c ≤ 9223372036854775807) :
    Calls Try.prog 24 #[v] w (GivesS ps n q w) := (scan_reads v l w hl hb hr hcap).mono fun _ _ h => h.gives hi
theorem refScanG (v : Value) (l : List Int) (w : World) {ps : List Pc} {n q : Nat} (hi : ScanIs l ps n q) (hl : l.length ≤ 4294967296) (hb : Bytes l) (hr : Reads w v l) (hcap : ∀ A n c, v = .slice A n c → c ≤ 9223372036854775807) :
    Calls Try.prog 25 #[v] w (GivesS ps n q w) := (refScan_reads v l w hl hb hr hcap).mono fun _ _ h => h.gives hi
theorem own_lower {w : World} {B B' E size n : Nat} {v : Value} {xs : List Value} (h : w.ownsRow B E size v n xs) (hB : B' ≤ B) : w.ownsRow B' E size v n xs := by
  obtain ⟨h1, h2⟩ := h
  refine ⟨h1, ?_⟩
  rcases h2 with h | ⟨g', cap, cur, e1, e2, r⟩
  · exact .inl h
  · exact .inr ⟨g', cap, cur, e1, Nat.le_trans hB e2, r⟩
/-- Lists that were made one behind the other. -/
inductive Chn : List Value → Nat → Nat → Prop
  | nil {a b : Nat} : a ≤ b → Chn [] a b
  | cons {v : Value} {vs : List Value} {a b c : Nat} : (∀ k, v.ownBlock = some k → a ≤ k ∧ k < c) → a ≤ c → Chn vs c b → Chn (v :: vs) a b
theorem Chn.lo {vs : List Value} {a b : Nat} (h : Chn vs a b) : a ≤ b ∧ ∀ (i : Nat) v k, vs[i]? = some v → v.ownBlock = some k → a ≤ k ∧ k < b := by
  induction h with
  | nil h => exact ⟨h, fun i v k hv => by simp at hv⟩
  | cons h1 h2 h3 ih =>
    refine ⟨by omega, fun i v k hv hk => ?_⟩
    cases i with
    | zero => simp at hv; subst hv; have := h1 k hk; omega
    | succ i => have := ih.2 i v k (by simpa using hv) hk; omega
theorem Chn.sep {vs : List Value} {a b : Nat} (h : Chn vs a b) : ∀ (i j : Nat) v u k, vs[i]? = some v → vs[j]? = some u → v.ownBlock = some k → u.ownBlock = some k → i = j := by
  induction h with
  | nil h => intro i j v u k hv; simp at hv
  | cons h1 h2 h3 ih =>
    intro i j v u k hv hu hk hk'
    cases i with
    | zero =>
      cases j with
      | zero => rfl
      | succ j =>
        simp at hv; subst hv
        have a1 := h1 k hk
        have a2 := h3.lo.2 j u k (by simpa using hu) hk'
        omega
    | succ i =>
      cases j with
      | zero =>
        simp at hu; subst hu
        have a1 := h1 k hk'
        have a2 := h3.lo.2 i v k (by simpa using hv) hk
        omega
      | succ j => rw [ih i j v u k (by simpa using hv) (by simpa using hu) hk hk']

set_option maxHeartbeats 16000000 in
set_option maxRecDepth 100000 in
theorem scans_any (v u : Value) (l m : List Int) (w : World) (hb : Bytes l) (hl : l.length ≤ 4294967296) (hr : Reads w v l) (hcap : ∀ A n c, v = .slice A n c → c ≤ 9223372036854775807)
    (hb2 : Bytes m) (hl2 : m.length ≤ 4294967296) (hr2 : Reads w u m) (hcap2 : ∀ A n c, u = .slice A n c → c ≤ 9223372036854775807) :
    Calls Try.prog 7 #[v, u] w (True1 w) := by
  obtain ⟨i0, hi, hz0, hz1, hz2⟩ := info_u8
  have hm : maxLen = 9223372036854775807 := rfl
  have HM := Lib.hid hm
  clear hm
  obtain ⟨p1, n1, q1, s1⟩ := scan_is l
  obtain ⟨p2, n2, q2, s2⟩ := scan_is m
  obtain ⟨p3, n3, q3, s3⟩ := scan_is (xorL l)
  have hx3 := s3.len
  rw [xorL_len] at hx3
  have HP := Lib.hid (And.intro s1.len (And.intro s2.len hx3))
  have HI := Lib.hid (And.intro s1 (And.intro s2 s3))
  have HR := Lib.hid (And.intro hr hr2)
  have HCAP := Lib.hid (And.intro hcap hcap2)
  clear hr hr2 hcap hcap2 s1 s2 s3 hx3
  go_enter Try.func7, Try.ntmps7
  go_wp2_with fail
  refine (shown_any w).mono ?_
  rintro e w1 ⟨rfl, hk1⟩
  have K1 := Lib.hid hk1
  clear hk1
  go_wp2_with fail
  refine (lent_any v l w1 hb hl (HR.out.1.kept K1.out)).mono ?_
  rintro e w2 ⟨rfl, hk2, hh2⟩
  have K2 := Lib.hid (And.intro hk2 (And.intro hh2 (blk_lt hh2.choose_spec.1)))
  clear hk2 hh2
  go_wp2_with fail
  refine (scanG _ l w2 HI.out.1 hl hb K2.out.2.1.lent (by intro A n c h; injection h; omega)).mono ?_
  rintro e w3 ⟨A3, c3, rfl, ho3, hk3⟩
  have K3 := Lib.hid (And.intro hk3 ho3)
  clear hk3 ho3
  go_wp2_with fail
  refine (scanG _ l w3 HI.out.1 hl hb (K2.out.2.1.kept K3.out.1).lent (by intro A n c h; injection h; omega)).mono ?_
  rintro e w4 ⟨A4, c4, rfl, ho4, hk4⟩
  have K4 := Lib.hid (And.intro hk4 ho4)
  clear hk4 ho4
  go_wp2_with fail
  refine (scanG u m w4 HI.out.2.1 hl2 hb2 (HR.out.2.kept (kt K1.out (kt (kt K2.out.1 K3.out.1) K4.out.1))) HCAP.out.2).mono ?_
  rintro e w5 ⟨A5, c5, rfl, ho5, hk5⟩
  have K5 := Lib.hid (And.intro hk5 ho5)
  clear hk5 ho5
  go_wp2_with fail
  refine (scanG _ l w5 HI.out.1 hl hb (K2.out.2.1.kept (kt (kt K3.out.1 K4.out.1) K5.out.1)).lent (by intro A n c h; injection h; omega)).mono ?_
  rintro e w6 ⟨A6, c6, rfl, ho6, hk6⟩
  have K6 := Lib.hid (And.intro hk6 ho6)
  clear hk6 ho6
  go_wp2_with fail
  refine (refScanG v l w6 HI.out.1 hl hb (HR.out.1.kept (kt K1.out (kt (kt (kt (kt K2.out.1 K3.out.1) K4.out.1) K5.out.1) K6.out.1))) HCAP.out.1).mono ?_
  rintro e w7 ⟨A7, c7, rfl, ho7, hk7⟩
  have K7 := Lib.hid (And.intro hk7 ho7)
  clear hk7 ho7
  go_wp2_with fail
  refine (refScanG u m w7 HI.out.2.1 hl2 hb2 (HR.out.2.kept (kt K1.out (kt (kt (kt (kt (kt K2.out.1 K3.out.1) K4.out.1) K5.out.1) K6.out.1) K7.out.1))) HCAP.out.2).mono ?_
  rintro e w8 ⟨A8, c8, rfl, ho8, hk8⟩
  have K8 := Lib.hid (And.intro hk8 ho8)
  clear hk8 ho8
  go_wp2_with fail
  refine (same_any _ _ _ w8 (own_preads (own_kept K3.out.2 (kt (kt (kt (kt K4.out.1 K5.out.1) K6.out.1) K7.out.1) K8.out.1) (fun _ _ => id))) (own_preads (own_kept K7.out.2 K8.out.1 (fun _ _ => id)))).mono ?_
  rintro e w9 ⟨rfl, d9, hd9⟩
  have hk9 : Kept (fun _ => False) w8 w9 := by rw [hd9]; exact .drewN _ _ _
  clear hd9
  have K9 := Lib.hid (And.intro hk9 True.intro)
  clear hk9
  go_wp2_with fail
  refine (same_any _ _ _ w9 (own_preads (own_kept K4.out.2 (kt (kt (kt (kt K5.out.1 K6.out.1) K7.out.1) K8.out.1) K9.out.1) (fun _ _ => id))) (own_preads (own_kept K7.out.2 (kt K8.out.1 K9.out.1) (fun _ _ => id)))).mono ?_
  rintro e w10 ⟨rfl, d10, hd10⟩
  have hk10 : Kept (fun _ => False) w9 w10 := by rw [hd10]; exact .drewN _ _ _
  clear hd10
  have K10 := Lib.hid (And.intro hk10 True.intro)
  clear hk10
  go_wp2_with fail
  refine (same_any _ _ _ w10 (own_preads (own_kept K6.out.2 (kt (kt (kt K7.out.1 K8.out.1) K9.out.1) K10.out.1) (fun _ _ => id))) (own_preads (own_kept K7.out.2 (kt (kt K8.out.1 K9.out.1) K10.out.1) (fun _ _ => id)))).mono ?_
  rintro e w11 ⟨rfl, d11, hd11⟩
  have hk11 : Kept (fun _ => False) w10 w11 := by rw [hd11]; exact .drewN _ _ _
  clear hd11
  have K11 := Lib.hid (And.intro hk11 True.intro)
  clear hk11
  go_wp2_with fail
  refine (same_any _ _ _ w11 (own_preads (own_kept K5.out.2 (kt (kt (kt (kt (kt K6.out.1 K7.out.1) K8.out.1) K9.out.1) K10.out.1) K11.out.1) (fun _ _ => id))) (own_preads (own_kept K8.out.2 (kt (kt K9.out.1 K10.out.1) K11.out.1) (fun _ _ => id)))).mono ?_
  rintro e w12 ⟨rfl, d12, hd12⟩
  have hk12 : Kept (fun _ => False) w11 w12 := by rw [hd12]; exact .drewN _ _ _
  clear hd12
  have K12 := Lib.hid (And.intro hk12 True.intro)
  clear hk12
  go_wp2_with fail
  refine (back_any w1.heap.size _ l w12 hb hl (K2.out.2.1.kept (kt (kt (kt (kt (kt (kt (kt (kt (kt K3.out.1 K4.out.1) K5.out.1) K6.out.1) K7.out.1) K8.out.1) K9.out.1) K10.out.1) K11.out.1) K12.out.1)) (HR.out.1.beside (kt K1.out (kt (kt (kt (kt (kt (kt (kt (kt (kt (kt K2.out.1 K3.out.1) K4.out.1) K5.out.1) K6.out.1) K7.out.1) K8.out.1) K9.out.1) K10.out.1) K11.out.1) K12.out.1)) K1.out.size)).mono ?_
  rintro e w13 ⟨rfl, hk13, hh13⟩
  have g2 := K2.out.2.2
  have hs2 := K2.out.1.size
  have hs3 := K3.out.1.size
  have hs4 := K4.out.1.size
  have hs5 := K5.out.1.size
  have hs6 := K6.out.1.size
  have R3 := own_kept (own_kept K3.out.2 (kt (kt (kt (kt (kt (kt (kt (kt K4.out.1 K5.out.1) K6.out.1) K7.out.1) K8.out.1) K9.out.1) K10.out.1) K11.out.1) K12.out.1) (fun _ _ => id)) hk13 (fun k hk e => by have := (K3.out.2.lt k hk).1; omega)
  have R4 := own_kept (own_kept K4.out.2 (kt (kt (kt (kt (kt (kt (kt K5.out.1 K6.out.1) K7.out.1) K8.out.1) K9.out.1) K10.out.1) K11.out.1) K12.out.1) (fun _ _ => id)) hk13 (fun k hk e => by have := (K4.out.2.lt k hk).1; omega)
  have R5 := own_kept (own_kept K5.out.2 (kt (kt (kt (kt (kt (kt K6.out.1 K7.out.1) K8.out.1) K9.out.1) K10.out.1) K11.out.1) K12.out.1) (fun _ _ => id)) hk13 (fun k hk e => by have := (K5.out.2.lt k hk).1; omega)
  have R6 := own_kept (own_kept K6.out.2 (kt (kt (kt (kt (kt K7.out.1 K8.out.1) K9.out.1) K10.out.1) K11.out.1) K12.out.1) (fun _ _ => id)) hk13 (fun k hk e => by have := (K6.out.2.lt k hk).1; omega)
  have k13' : Kept (fun _ => False) w w13 := (kt K1.out (kt (kt (kt (kt (kt (kt (kt (kt (kt (kt K2.out.1 K3.out.1) K4.out.1) K5.out.1) K6.out.1) K7.out.1) K8.out.1) K9.out.1) K10.out.1) K11.out.1) K12.out.1)).trans hk13 (fun _ _ e => e) (fun i hi e => by have := K1.out.size; omega)
  have hs13 := hk13.size
  have hs12 := (kt (kt (kt (kt (kt K7.out.1 K8.out.1) K9.out.1) K10.out.1) K11.out.1) K12.out.1).size
  have K13 := Lib.hid (And.intro k13' (And.intro hh13 (And.intro R3 (And.intro R4 (And.intro R5 (And.intro R6 (Nat.le_trans hs12 hs13)))))))
  clear hk13 hh13 k13' R3 R4 R5 R6 g2 hs2 hs3 hs4 hs5 hs6 hs12 hs13
  have hxl : (xorL l).length = l.length := xorL_len l
  have hxb := xorL_bytes hb
  obtain ⟨X, hX⟩ : ∃ X, X = xorL l := ⟨_, rfl⟩
  have HRX := Lib.hid (fun W (h : Kept (fun _ => False) w13 W) => (K13.out.2.1.kept h).over)
  rw [← hX] at hxl hxb HRX
  have HI2 := Lib.hid (hX ▸ HI.out.2.2)
  have ow1 := own_empty' w13 5
  have ra1 := (HRX.out _ (.refl _ _)).kept (Kept.alloc _ w13 (.cells #[] 5))
  rw [hxl] at ra1 HRX
  clear hX
  have HXL := Lib.hid hxl
  go_wp2_with (at_builtin; refine wpList_append_reads rfl _ _ 25 rfl w13.heap.size 5 i0 (.int .u8 0) 1 Try.underlying25 hi hz0 hz1 hz2 rfl (.slice (some ⟨w13.heap.size, 0, none⟩) 0 0) (.slice (some ⟨w1.heap.size, 0, none⟩) l.length (l.length + 40)) [] X rfl rfl ra1 ow1 ?c2 ?c3 ?c4 ?_)
  case c2 => have := HM.out; simp; omega
  case c3 => simp; omega
  case c4 => simp
  rintro v14 w14 st14
  have k14' := st14.old (Kept.alloc (fun _ => False) w13 _) (fun i hi => by simp [Value.ownBlock] at hi; omega)
  have S14 := Lib.hid (And.intro st14 k14')
  clear st14 k14' ra1 ow1
  have HRO := Lib.hid (fun W (h : Kept (fun _ => False) w14 W) => And.intro (HRX.out _ (kt S14.out.2 h)) (show Reads W v14 X from S14.out.1.reads.kept h))
  have HC14 := Lib.hid (own_capm S14.out.1.own)
  go_wp2_with fail
  refine (scanG _ X w14 HI2.out (by omega) hxb (by have := (HRO.out _ (.refl _ _)).1; exact this) (by intro A n c h; injection h; omega)).mono ?_
  rintro e w15 ⟨A15, c15, rfl, ho15, hk15⟩
  have K15 := Lib.hid (And.intro hk15 ho15)
  clear hk15 ho15
  go_wp2_with fail
  refine (refScanG _ X w15 HI2.out (by omega) hxb (HRO.out _ K15.out.1).2 HC14.out).mono ?_
  rintro e w16 ⟨A16, c16, rfl, ho16, hk16⟩
  have K16 := Lib.hid (And.intro hk16 ho16)
  clear hk16 ho16
  go_wp2_with fail
  refine (same_any _ _ _ w16 (own_preads (own_kept K15.out.2 K16.out.1 (fun _ _ => id))) (own_preads K16.out.2)).mono ?_
  rintro e w17 ⟨rfl, d17, hd17⟩
  have hk17 : Kept (fun _ => False) w16 w17 := by rw [hd17]; exact .drewN _ _ _
  clear hd17
  have K17 := Lib.hid hk17
  clear hk17
  go_wp2_with fail
  have kk : Kept (fun _ => False) w13 (w17.alloc (.cells #[.slice A3 p1.length c3, .slice A4 p1.length c4, .slice A5 p2.length c5, .slice A6 p1.length c6, .slice A15 p3.length c15] 47)) := kt S14.out.2 (kt K15.out.1 (kt K16.out.1 (kt K17.out (Kept.alloc _ _ _))))
  have kk15 : Kept (fun _ => False) w15 (w17.alloc (.cells #[.slice A3 p1.length c3, .slice A4 p1.length c4, .slice A5 p2.length c5, .slice A6 p1.length c6, .slice A15 p3.length c15] 47)) := kt K16.out.1 (kt K17.out (Kept.alloc _ _ _))
  have hs3 := K3.out.1.size
  have hs4 := K4.out.1.size
  have hs5 := K5.out.1.size
  have hs6 := K6.out.1.size
  have hs6' := K13.out.2.2.2.2.2.2
  have hs14 := S14.out.2.size
  have hs15 := K15.out.1.size
  have hchn : Chn [.slice A3 p1.length c3, .slice A4 p1.length c4, .slice A5 p2.length c5, .slice A6 p1.length c6, .slice A15 p3.length c15] w2.heap.size w15.heap.size :=
    .cons (K3.out.2.lt) hs3 (.cons (K4.out.2.lt) hs4 (.cons (K5.out.2.lt) hs5 (.cons (c := w14.heap.size) (fun k hk => by have := K6.out.2.lt k hk; omega) (by omega) (.cons (c := w15.heap.size) (fun k hk => K15.out.2.lt k hk) (by omega) (.nil (Nat.le_refl _))))))
  have hrw : Rws w2.heap.size w17.heap.size [.slice A3 p1.length c3, .slice A4 p1.length c4, .slice A5 p2.length c5, .slice A6 p1.length c6, .slice A15 p3.length c15] (w17.alloc (.cells #[.slice A3 p1.length c3, .slice A4 p1.length c4, .slice A5 p2.length c5, .slice A6 p1.length c6, .slice A15 p3.length c15] 47)) := by
    have hbk := heap_alloc_new w17 (.cells #[.slice A3 p1.length c3, .slice A4 p1.length c4, .slice A5 p2.length c5, .slice A6 p1.length c6, .slice A15 p3.length c15] 47)
    have l1 := HP.out.1
    have l2 := HP.out.2.1
    have l3 := HP.out.2.2
    refine ⟨?_, ⟨_, hbk⟩, fun j v hv => ?_, fun j v hv => ?_, hchn.sep, by simp⟩
    · have := kk15.size
      omega
    · rw [blk_cell hbk, ← hv]
      simp
    · rcases j with _ | _ | _ | _ | _ | j
      · simp at hv; subst hv; exact ⟨_, _, by omega, own_kept K13.out.2.2.1 kk (fun _ _ => id)⟩
      · simp at hv; subst hv; exact ⟨_, _, by omega, own_lower (own_kept K13.out.2.2.2.1 kk (fun _ _ => id)) hs3⟩
      · simp at hv; subst hv; exact ⟨_, _, by omega, own_lower (own_kept K13.out.2.2.2.2.1 kk (fun _ _ => id)) (by omega)⟩
      · simp at hv; subst hv; exact ⟨_, _, by omega, own_lower (own_kept K13.out.2.2.2.2.2.1 kk (fun _ _ => id)) (by omega)⟩
      · simp at hv; subst hv; exact ⟨_, _, by omega, own_lower (own_kept K15.out.2 kk15 (fun _ _ => id)) (by omega)⟩
      · simp at hv
  have hend : Hid (∀ W, Kept (Blocks [.slice A3 p1.length c3, .slice A4 p1.length c4, .slice A5 p2.length c5, .slice A6 p1.length c6, .slice A15 p3.length c15]) (w17.alloc (.cells #[.slice A3 p1.length c3, .slice A4 p1.length c4, .slice A5 p2.length c5, .slice A6 p1.length c6, .slice A15 p3.length c15] 47)) W → Kept (fun _ => False) w W) := Lib.hid fun W hW => by
    refine (kt K13.out.1 kk).trans hW (fun _ _ e => e) fun k hk hbk => ?_
    obtain ⟨i, v, hv, hb⟩ := hbk
    have h1 := (hchn.lo.2 i v k hv hb).1
    have h2 := K1.out.size
    have h3 := K2.out.1.size
    omega
  have HPC := Lib.hid (pieces_any _ _ 5 _ _ hrw (by simp))
  clear kk kk15 hs3 hs4 hs5 hs6 hs6' hs14 hs15 hchn hrw
  refine HPC.out.mono ?_
  rintro e w18 ⟨rfl, hk18⟩
  have K18 := Lib.hid (hend.out _ hk18)
  clear hk18 hend
  go_wp2_with fail
  go_ret
  exact ⟨rfl, K18.out⟩
end Go.Proofs.Ytoolimfdncfgnaa
