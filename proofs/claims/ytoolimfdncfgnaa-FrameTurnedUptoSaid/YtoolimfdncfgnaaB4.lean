/- FrameForm: of any bytes the pieces are what Make makes, one behind the other. -/
import Derived.Test.YtoolimfdncfgnaaB3
import Derived.Deep.RegionHeld3
namespace Go.Proofs.Ytoolimfdncfgnaa
open Go.RowKit
set_option linter.unusedVariables false
set_option linter.unusedSimpArgs false

/-- Scan of bytes that came in, whatever the address. -/
theorem scan_reads (v : Value) (l : List Int) (w : World) (hl : l.length ≤ 4294967296) (hb : Bytes l) (hr : Reads w v l) (hcm : ∀ A n c, v = .slice A n c → c ≤ 9223372036854775807) :
    Calls Try.prog 24 #[v] w (ScanPost l w) := by
  rcases Nat.eq_zero_or_pos l.length with h0 | h0
  · obtain rfl : l = [] := List.eq_nil_of_length_eq_zero h0
    obtain ⟨A, c, rfl, -⟩ := hr
    go_enter Try.func24, Try.ntmps24
    go_wp2_with fail
    refine wp_loop_rounds 1 ?_
    rw [rounds_succ]
    go_wp2_with fail
    go_ret3
    exact ⟨_, rfl, World.ownsRow_nil _ _ _ _, .refl _ _⟩
  · obtain ⟨b, off, c, rfl, hc, hh⟩ := reads_here hr h0
    exact scan_any b off c l w hl hc (hcm _ _ _ rfl) hb hh

def FormRel (l : List Int) (ps : List Pc) (e : Nat) (w : World) (at_ i : Value) (wr : World) : Prop :=
  ∃ n k : Nat, at_ = .int .i64 n ∧ i = .int .i64 k ∧ k ≤ ps.length ∧ Chain l n (ps.drop k) e ∧ Kept (fun _ => False) w wr

set_option maxRecDepth 100000 in
set_option maxHeartbeats 8000000 in
theorem form_any (bb off c : Nat) (l : List Int) (w : World) (h0 : 0 < l.length) (hl : l.length ≤ 4294967296) (hc : l.length ≤ c) (hcm : c ≤ 9223372036854775807) (hb : Bytes l) (hh : Here bb off l w) :
    Calls Try.prog 12 #[.slice (some ⟨bb, off, none⟩) l.length c] w (True1 w) := by
  have HH := Lib.hid hh
  clear hh
  go_enter Try.func12, Try.ntmps12
  go_wp2_with fail
  refine (shown_any w).mono ?_
  rintro e w1 ⟨rfl, hk1⟩
  have H1 := Lib.hid hk1
  clear hk1
  go_wp2_with fail
  refine (scan_any bb off c l w1 hl hc hcm hb (HH.out.kept H1.out)).mono ?_
  rintro e w2 ⟨v, rfl, hown, hk2⟩
  obtain ⟨hch, hel, hez, hc25⟩ := scan_chain l (l.length + 1) 0 (by omega) (by omega)
  obtain ⟨ps, hps⟩ : ∃ ps, ps = (scanS l (l.length + 1) 0).1 := ⟨_, rfl⟩
  obtain ⟨en, hen⟩ : ∃ en, en = (scanS l (l.length + 1) 0).2.1 := ⟨_, rfl⟩
  obtain ⟨er, her⟩ : ∃ er, er = (scanS l (l.length + 1) 0).2.2 := ⟨_, rfl⟩
  rw [← hps, ← hen] at hch
  rw [← hen] at hel hez
  rw [← her] at hez hc25
  rw [← hps] at hown
  rw [← hen, ← her]
  have hpr := own_preads hown
  have hpl : ps.length ≤ 4294967296 := by have := hch.le; omega
  have hform : ∃ A cv, v = .slice A ps.length cv := by obtain ⟨A, cv, e, _⟩ := hpr; exact ⟨A, cv, e⟩
  obtain ⟨A, cv, hv⟩ := hform
  rw [hv]
  rw [hv] at hpr
  have H2 := Lib.hid (And.intro (kt H1.out hk2) (And.intro hpr (And.intro hch (And.intro hez hel))))
  clear hown hpr hch hk2 hps hen her hv hez
  go_wp2_with fail
  go_loopw [7, 8] (fun a i wr => FormRel l ps en w2 a i wr) (fun _ i _ => ps.length - (intOf i).toNat)
  case atStart => exact ⟨0, 0, rfl, rfl, by omega, by simpa using H2.out.2.2.1, .refl _ _⟩
  case round =>
    obtain ⟨n, k, rfl, rfl, hk, hC, hK⟩ := hrel
    by_cases h : k < ps.length
    · obtain ⟨p, qs, hd⟩ : ∃ p qs, ps.drop k = p :: qs := ⟨ps[k], ps.drop (k + 1), List.drop_eq_getElem_cons h⟩
      have hget : ps[k]? = some p := by
        have := congrArg (·[0]?) hd
        simpa using this
      have hqs : ps.drop (k + 1) = qs := by
        have := congrArg List.tail hd
        simpa using this
      rw [hd] at hC
      cases hC with
      | @cons _ kd sq m u _ _ hh hf hs ht =>
      obtain ⟨h24, hfm, hk0, hk9, hm, hsq⟩ := head_form (hb.drop n) hh
      obtain ⟨g, rfl, hpat⟩ : ∃ g, A = some ⟨g, 0, none⟩ ∧ PAt g ps wr := by
        obtain ⟨A', c', he, _, hg⟩ := H2.out.2.1.kept hK
        injection he with he
        subst he
        exact hg (by omega)
      obtain ⟨a0, a1, a2, a3⟩ := pcells_at ps k _ hget
      have b0 := hpat _ _ a0
      have b1 := hpat _ _ a1
      have b2 := hpat _ _ a2
      have b3 := hpat _ _ a3
      have k1 : (k : Int) < ps.length := by omega
      have HF := Lib.hid (And.intro hfm (And.intro hf (And.intro hs (And.intro ht (And.intro hqs hK)))))
      have n1 : (m : Int) ≤ (l.length : Int) - (n + 24) := by omega
      have n2 : n + 24 + m ≤ 4294967296 := by omega
      clear a0 a1 a2 a3 hget hd hpat hfm hf hs ht hqs hK hh h24
      go_wp2_with fail
      have hbk : (wr.alloc (.cells #[.int .i64 kd, .int .u64 sq, .int .i64 ((n : Int) + 24), .int .i64 m] 60)).heap[wr.heap.size]? = some (.cells #[.int .i64 kd, .int .u64 sq, .int .i64 ((n : Int) + 24), .int .i64 m] 60 (0, 0)) := heap_alloc_new _ _
      have hkV : Kept (fun _ => False) wr (wr.alloc (.cells #[.int .i64 kd, .int .u64 sq, .int .i64 ((n : Int) + 24), .int .i64 m] 60)) := .alloc _ _ _
      obtain ⟨V, hV⟩ : ∃ V, V = wr.alloc (.cells #[.int .i64 kd, .int .u64 sq, .int .i64 ((n : Int) + 24), .int .i64 m] 60) := ⟨_, rfl⟩
      rw [← hV] at hbk hkV
      rw [← hV]
      clear hV
      have v0 : V.cell? ⟨wr.heap.size, 0, none⟩ = some (.int .i64 kd) := blk_cell hbk 0
      have v1 : V.cell? ⟨wr.heap.size, 1, none⟩ = some (.int .u64 sq) := blk_cell hbk 1
      have v2 : V.cell? ⟨wr.heap.size, 2, none⟩ = some (.int .i64 ((n : Int) + 24)) := blk_cell hbk 2
      have v3 : V.cell? ⟨wr.heap.size, 3, none⟩ = some (.int .i64 m) := blk_cell hbk 3
      have hmk : ∀ W, Kept (fun _ => False) V W → ∀ a, (0 < m → a = off + (n + 24)) → ∀ c1, m ≤ c1 → Calls Try.prog 17 #[.int .i64 kd, .int .u64 sq, .slice (some ⟨bb, a, none⟩) m c1] W (MakePost 0 (frameB kd sq ((l.drop (n + 24)).take m)) W) := fun W hW a ha c1 hc1 => by
        have hlm : ((l.drop (n + 24)).take m).length = m := by simp; omega
        have hhere : Here bb a ((l.drop (n + 24)).take m) W := by
          intro j hj
          rw [hlm] at hj
          rw [ha (by omega)]
          exact (HH.out.kept (kt H2.out.1 (kt HF.out.2.2.2.2.2 (kt hkV hW)))).sub (n + 24) m (by omega) j (by rw [hlm]; exact hj)
        have hr := hhere.reads (c := c1) (by omega)
        rw [hlm] at hr
        exact make_ok kd sq _ _ W hk0 hk9 hsq (by omega) ((hb.drop _).take _) hr
      have hEq : (l.drop n).take (24 + m) = frameB kd sq ((l.drop (n + 24)).take m) := by
        have hlm : ((l.drop (n + 24)).take m).length = m := by simp; omega
        rw [List.take_add, HF.out.1, frameB, hlm, HF.out.2.2.1, List.drop_drop]
      have HEQ := Lib.hid hEq
      clear hEq
      have HMK := Lib.hid hmk
      have HV := Lib.hid (And.intro hbk hkV)
      clear hmk hbk hkV b0 b1 b2 b3
      have x1 : (n : Int) + 24 + m ≤ c := by omega
      have x2 : (0 : Int) ≤ (n : Int) + 24 := by omega
      have x3 : (n : Int) + 24 ≤ (n : Int) + 24 + m := by omega
      have y1 : IntKind.i64.wrap ((n : Int) + 24 + m) = (n : Int) + 24 + m := IntWalk.i64_in _ (by omega)
      have y2 : (0 : Int) ≤ (n : Int) + 24 + m := by omega
      have y3 : ((n : Int) + 24).toNat = n + 24 := by omega
      have y4 : ((n : Int) + 24 + m).toNat = n + 24 + m := by omega
      have y5 : n + 24 + m - (n + 24) = m := by omega
      by_cases hcap : c = n + 24
      · have HCAP := Lib.hid hcap
        have hcap2 : (c = n + 24) = True := eq_true hcap
        have hm0 : m ≤ 0 := by omega
        have hm1 : ¬ 0 < m := by omega
        have HMK := Lib.hid (fun W hW c1 => HMK.out W hW off (fun h => absurd h hm1) c1 (by omega))
        clear hcap
        go_region_held3 (fun w' => w'.cell? ⟨wr.heap.size, 0, none⟩ = some (.int .i64 kd) ∧ w'.cell? ⟨wr.heap.size, 1, none⟩ = some (.int .u64 sq) ∧ w'.cell? ⟨wr.heap.size, 2, none⟩ = some (.int .i64 ((n : Int) + 24)) ∧ w'.cell? ⟨wr.heap.size, 3, none⟩ = some (.int .i64 m))
          (first | exact ⟨v0, v1, v2, v3⟩ | exact ⟨cell_kept hk' v0, cell_kept hk' v1, cell_kept hk' v2, cell_kept hk' v3⟩)
          (first
            | (go_at_call 17; refine (HMK.out _ (Kept.drew _ _) (c - (n + 24))).mono ?_; rintro e w' ⟨v', rfl, hown', hk', -⟩))
        go_goals
        obtain ⟨q0, q1, q2, q3⟩ := (by assumption : w'.cell? ⟨wr.heap.size, 0, none⟩ = some (.int .i64 kd) ∧ w'.cell? ⟨wr.heap.size, 1, none⟩ = some (.int .u64 sq) ∧ w'.cell? ⟨wr.heap.size, 2, none⟩ = some (.int .i64 ((n : Int) + 24)) ∧ w'.cell? ⟨wr.heap.size, 3, none⟩ = some (.int .i64 m))
        have hkw : Kept (fun _ => False) wr w' := kt HV.out.2 ((Kept.drew _ _).trans hk' (fun _ _ e => e) (fun _ _ e => e))
        go_wp2_with fail
        have hcy := fun p : Later w' => Lies.string (P := Try.prog) Try.underlying25 Try.underlying5 Try.underlying9 (Lies.kept (Lies.of_own hown') p.kept (fun _ _ => id))
        have hcb := fun p : Later w' => (show Here bb (off + n) ((l.drop n).take (24 + m)) p.w' from (HH.out.kept (p.old (kt H2.out.1 (kt HF.out.2.2.2.2.2 hkw)))).sub n (24 + m) (by omega)).string (P := Try.prog) (c := c - n) Try.underlying25 Try.underlying5 Try.underlying9 (show ((l.drop n).take (24 + m)).length = 24 + m by simp; omega)
        rw [HEQ.out] at hcb
        have hv2 := fun p : Later w' => p.cell q2
        have hv3 := fun p : Later w' => p.cell q3
        have hv0 := fun p : Later w' => p.cell q0
        have hv1 := fun p : Later w' => p.cell q1
        have t1 : n + 24 + m - n = 24 + m := by omega
        have t2 : ¬ c = n := by omega
        have t3 : (n : Int) ≤ (n : Int) + 24 + m := by omega
        have t4 : (0 : Int) ≤ n := by omega
        refine wp_region_later (by kernel_rfl) (by kernel_rfl) ?_
        repeat (go_big_quiet_step (fail))
        refine wpQuiet_nil ?_
        intro p
        have z2 := hv2 p
        have z3 := hv3 p
        clear hcy hcb hv0 hv1 hv2 hv3
        have HR : Hid (FormRel l ps en w2 (.int .i64 ((n : Int) + 24 + m)) (.int .i64 ((k : Int) + 1)) p.w') := Lib.hid ⟨n + 24 + m, k + 1, by congr 1, by congr 1, by omega, by rw [HF.out.2.2.2.2.1]; exact HF.out.2.2.2.1, p.old (kt HF.out.2.2.2.2.2 hkw)⟩
        go_wp2_with fail
        exact ⟨HR.out, by simp [intOf]; omega⟩
      · go_region_held3 (fun w' => w'.cell? ⟨wr.heap.size, 0, none⟩ = some (.int .i64 kd) ∧ w'.cell? ⟨wr.heap.size, 1, none⟩ = some (.int .u64 sq) ∧ w'.cell? ⟨wr.heap.size, 2, none⟩ = some (.int .i64 ((n : Int) + 24)) ∧ w'.cell? ⟨wr.heap.size, 3, none⟩ = some (.int .i64 m))
          (first | exact ⟨v0, v1, v2, v3⟩ | exact ⟨cell_kept hk' v0, cell_kept hk' v1, cell_kept hk' v2, cell_kept hk' v3⟩)
          (first
            | (go_at_call 17; refine (HMK.out _ (Kept.drew _ _) (off + (n + 24)) (fun _ => rfl) (c - (n + 24)) (by omega)).mono ?_; rintro e w' ⟨v', rfl, hown', hk', -⟩))
        go_goals
        obtain ⟨q0, q1, q2, q3⟩ := (by assumption : w'.cell? ⟨wr.heap.size, 0, none⟩ = some (.int .i64 kd) ∧ w'.cell? ⟨wr.heap.size, 1, none⟩ = some (.int .u64 sq) ∧ w'.cell? ⟨wr.heap.size, 2, none⟩ = some (.int .i64 ((n : Int) + 24)) ∧ w'.cell? ⟨wr.heap.size, 3, none⟩ = some (.int .i64 m))
        have hkw : Kept (fun _ => False) wr w' := kt HV.out.2 ((Kept.drew _ _).trans hk' (fun _ _ e => e) (fun _ _ e => e))
        go_wp2_with fail
        have hcy := fun p : Later w' => Lies.string (P := Try.prog) Try.underlying25 Try.underlying5 Try.underlying9 (Lies.kept (Lies.of_own hown') p.kept (fun _ _ => id))
        have hcb := fun p : Later w' => (show Here bb (off + n) ((l.drop n).take (24 + m)) p.w' from (HH.out.kept (p.old (kt H2.out.1 (kt HF.out.2.2.2.2.2 hkw)))).sub n (24 + m) (by omega)).string (P := Try.prog) (c := c - n) Try.underlying25 Try.underlying5 Try.underlying9 (show ((l.drop n).take (24 + m)).length = 24 + m by simp; omega)
        rw [HEQ.out] at hcb
        have hv2 := fun p : Later w' => p.cell q2
        have hv3 := fun p : Later w' => p.cell q3
        have hv0 := fun p : Later w' => p.cell q0
        have hv1 := fun p : Later w' => p.cell q1
        have t1 : n + 24 + m - n = 24 + m := by omega
        have t2 : ¬ c = n := by omega
        have t3 : (n : Int) ≤ (n : Int) + 24 + m := by omega
        have t4 : (0 : Int) ≤ n := by omega
        refine wp_region_later (by kernel_rfl) (by kernel_rfl) ?_
        repeat (go_big_quiet_step (fail))
        refine wpQuiet_nil ?_
        intro p
        have z2 := hv2 p
        have z3 := hv3 p
        clear hcy hcb hv0 hv1 hv2 hv3
        have HR : Hid (FormRel l ps en w2 (.int .i64 ((n : Int) + 24 + m)) (.int .i64 ((k : Int) + 1)) p.w') := Lib.hid ⟨n + 24 + m, k + 1, by congr 1, by congr 1, by omega, by rw [HF.out.2.2.2.2.1]; exact HF.out.2.2.2.1, p.old (kt HF.out.2.2.2.2.2 hkw)⟩
        go_wp2_with fail
        exact ⟨HR.out, by simp [intOf]; omega⟩
    · obtain rfl : k = ps.length := by omega
      rw [List.drop_length] at hC
      cases hC
      have hpr := H2.out.2.1.kept hK
      have hee := H2.out.2.2.2.1
      have hk2 := kt H2.out.1 hK
      have HSC : Hid (∀ c1, en ≤ c1 → c1 ≤ 9223372036854775807 → Calls Try.prog 24 #[.slice (some ⟨bb, off, none⟩) en c1] wr (ScanPost (l.take en) wr)) := Lib.hid fun c1 h1 h2 => by
        have hs := (HH.out.kept hk2).sub 0 en (by omega)
        have hln : (l.take en).length = en := by simp; omega
        have hr := Here.reads (c := c1) hs (by simp; omega)
        rw [List.drop_zero, Nat.add_zero, hln] at hr
        have := scan_reads _ (l.take en) wr (by omega) (hb.take en) hr (fun A n1 c2 e => by injection e with _ _ e; subst e; exact h2)
        exact this
      have HR := Lib.hid (And.intro hpr (And.intro hee (And.intro hk2 hK)))
      clear hpr hk2 hK
      have e1 : (!((er : Int) == 0) == ((en : Int) == l.length)) = false := by
        by_cases her : er = 0
        · rw [her, hee.1 her]; simp
        · have h1 : ((er : Int) == 0) = false := by rw [beq_eq_false_iff_ne]; omega
          have h2 : ((en : Int) == l.length) = false := by rw [beq_eq_false_iff_ne]; have := fun h => her (hee.2 h); omega
          rw [h1, h2]; rfl
      clear hee
      go_wp2_with fail
      refine (HSC.out c (by omega) hcm).mono ?_
      have hS : scanS (l.take en) ((l.take en).length + 1) 0 = (ps, en, 0) := chain_scan H2.out.2.2.1 hel _ (by simp; omega)
      rintro e w3 ⟨v3, rfl, hown3, hk3⟩
      rw [hS] at hown3 ⊢
      have HPP := Lib.hid (And.intro (own_preads hown3) (HR.out.1.kept hk3))
      have HKK := Lib.hid (kt HR.out.2.2.1 hk3)
      clear hown3 hS hk3
      go_wp2_with fail
      refine (same_any _ _ ps w3 HPP.out.1 HPP.out.2).mono ?_
      rintro e w4 ⟨rfl, q, rfl⟩
      go_wp2_with fail
      go_ret
      exact ⟨rfl, kt HKK.out (.drewN _ _ _)⟩

set_option maxHeartbeats 4000000 in
theorem form_nil (A : Option Addr) (c : Nat) (w : World) (hA : A = none → c = 0) (hcm : c ≤ 9223372036854775807) : Calls Try.prog 12 #[.slice A 0 c] w (True1 w) := by
  have hsn : ∀ w c1, (A = none → c1 = 0) → c1 ≤ 9223372036854775807 → Calls Try.prog 24 #[.slice A 0 c1] w fun e w' => ∃ v, e = .returned (.tuple #[v, .int .i64 0, .int .i64 0]) ∧ PReads w' v [] ∧ Kept (fun _ => False) w w' := fun w c1 h1 h2 => by
    refine (scan_reads _ [] w (by decide) (fun x hx => by cases hx) ⟨A, c1, rfl, ⟨h1, by simp⟩, fun j u hu => by simp [nums] at hu⟩ (fun _ _ _ e => by injection e with _ _ e; subst e; exact h2)).mono ?_
    rintro e w' ⟨v, rfl, hown, hk⟩
    have hS : scanS [] (([] : List Int).length + 1) 0 = ([], 0, 0) := by simp [scanS, headS]
    rw [hS] at hown ⊢
    exact ⟨v, rfl, own_preads hown, hk⟩
  have HSN := Lib.hid hsn
  clear hsn
  go_enter Try.func12, Try.ntmps12
  go_wp2_with fail
  refine (shown_any w).mono ?_
  rintro e w1 ⟨rfl, hk1⟩
  go_wp2_with fail
  refine (HSN.out w1 c hA hcm).mono ?_
  rintro e w2 ⟨v, rfl, hp2, hk2⟩
  obtain ⟨B, d, rfl, hP⟩ := id hp2
  have HK := Lib.hid (And.intro (kt hk1 hk2) (And.intro hp2 hP))
  clear hk1 hk2 hP hp2
  go_wp2_with fail
  refine wp_loop_rounds 1 ?_
  rw [rounds_succ]
  go_wp2_with fail
  refine (HSN.out w2 c hA hcm).mono ?_
  rintro e w3 ⟨v3, rfl, hp3, hk3⟩
  go_wp2_with fail
  refine (same_any _ _ [] w3 hp3 (HK.out.2.1.kept hk3)).mono ?_
  rintro e w4 ⟨rfl, q, rfl⟩
  go_wp2_with fail
  go_ret
  exact ⟨rfl, kt (kt HK.out.1 hk3) (.drewN _ _ _)⟩

theorem form_reads (v : Value) (l : List Int) (w : World) (hl : l.length ≤ 4294967296) (hb : Bytes l) (hr : Reads w v l) (hcm : ∀ A n c, v = .slice A n c → c ≤ 9223372036854775807) : Calls Try.prog 12 #[v] w (True1 w) := by
  rcases Nat.eq_zero_or_pos l.length with h0 | h0
  · obtain rfl : l = [] := List.eq_nil_of_length_eq_zero h0
    obtain ⟨A, c, rfl, ⟨h1, -⟩, -⟩ := hr
    exact form_nil A c w h1 (hcm _ _ _ rfl)
  · obtain ⟨b, off, c, rfl, hc, hh⟩ := reads_here hr h0
    exact form_any b off c l w h0 hl hc (hcm _ _ _ rfl) hb hh
end Go.Proofs.Ytoolimfdncfgnaa
