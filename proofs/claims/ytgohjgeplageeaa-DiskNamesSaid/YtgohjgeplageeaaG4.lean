/- Append. -/
import Derived.Test.YtgohjgeplageeaaG3
namespace Go.Proofs.Ytgohjgeplageeaa
open Go Go.RowKit
set_option linter.unusedVariables false
set_option linter.unusedSimpArgs false

/-- A step was added to a file of the disk. -/
theorem add_op {w w1 w2 : World} {C C1 : Col} {δ d N N' ml ms : Nat} {vm vd : Value} {ad : Nat → Nat} {S : Dsk} {i : Nat} {F : Fil} {s : Stp} {vl : Value} {e : Ending} (h0 : S.Ok N) (h : DAt w1 C1 δ d N ml ms vm vd ad S) (hi : S.fs[i]? = some F) (hs : ∀ n, s = .cut n → n ≤ F.see.length) (hN : N + s.units + 1 ≤ N')
    (hA : Agr w C C1) (hk : Kept (fun b => (C b).1 = δ) w w1) (hp : AddPost C1 δ (i + 1) (ad i) vl (F.add s) w1 e w2) (r : Value) : OpPost C δ d N' (S.turn i (·.add s)) r w (.returned r) w2 := by
  obtain ⟨-, k2, C2, vp, vs, us, hA2, hF⟩ := hp
  refine ⟨rfl, hk.trans k2 (fun _ _ e => e) (fun b hb e => by rw [← hA b hb]; exact e.1), C2, hA.trans hA2 hk.size, DskAt.mono ⟨h0.add hi s hs, ml, ms, vm, vd, ad, ?_⟩ hN⟩
  exact (h.mono (by omega)).turnFile hi k2 hA2 hF
theorem app_in {w1 w2 : World} {C : Col} {δ k a : Nat} {vl vp vs v : Value} {us : List Value} {F : Fil} {l : List Int} (hF : FAt w1 C δ k a vl vp vs us F) (r1 : w2.ownsRow w1.heap.size 5 1 v l.length (nums .u8 l)) (r2 : Kept (fun _ => False) w1 w2) :
    FAt w2 (C.new w1.heap.size (δ, k, 4 + F.pen.length)) δ k a vl vp vs us F ∧ SAt w2 (C.new w1.heap.size (δ, k, 4 + F.pen.length)) (δ, k, 4 + F.pen.length) (.iface 80 (.agg #[v])) (.app l) :=
  ⟨hF.kept r2 (fun _ _ _ e => e) (Agr.new _ _ _), v, rfl, own_base r1 (Nat.zero_le _), fun b hb => Col.new_ge (r1.lt b hb).1⟩
theorem app_out {w w1 w2 w3 : World} {C : Col} {δ d N N' ml ms : Nat} {vm vd : Value} {ad : Nat → Nat} {S : Dsk} {i : Nat} {F : Fil} {l : List Int} {vl : Value} {e : Ending} (h0 : S.Ok N) (h : DAt w1 C δ d N ml ms vm vd ad S) (hi : S.fs[i]? = some F) (hN : N + l.length + 1 ≤ N')
    (hk : Kept (fun b => (C b).1 = δ) w w1) (r2 : Kept (fun _ => False) w1 w2) (hp : AddPost (C.new w1.heap.size (δ, i + 1, 4 + F.pen.length)) δ (i + 1) (ad i) vl (F.add (.app l)) w2 e w3) (r : Value) : OpPost C δ d N' (S.turn i (·.add (.app l))) r w (.returned r) w3 :=
  add_op h0 (h.kept r2 (fun _ _ e => e) (Agr.new _ _ _)) hi (fun n e => by cases e) hN (fun b hb => (Agr.new w1 C _) b (Nat.lt_of_lt_of_le hb hk.size)) (hk.trans r2 (fun _ _ e => e) (fun _ _ e => e.elim)) hp r
set_option maxRecDepth 100000 in
theorem app_any {w : World} {C : Col} {δ d N : Nat} {S : Dsk} (h : DskAt w C δ d N S) (s : ByteArray) (hs : s.size ≤ 9223372036854775807) (v : Value) (l : List Int) (hr : Reads w v l) (hv : ∀ A n c, v = .slice (some A) n c → (C A.block).1 ≠ δ) (hN : N + l.length ≤ 1000000000000) :
    Calls Try.prog 14 #[.pointer (some ⟨d, 0, none⟩), .string s, v] w (OpPost C δ d (N + l.length + 1) (S.appD s l) (.int .i64 (S.syncE s)) w) := by
  have hD := Lib.hid h
  obtain ⟨h0, ml, ms, vm, vd, ad, h⟩ := h
  have H := Lib.hid h
  have hr0 := hr
  obtain ⟨A, n, rfl, hz, -⟩ := hr
  by_cases c : S.err s = 0
  · obtain ⟨i, hi⟩ := Option.isSome_iff_exists.1 (err0 c).2.2
    obtain ⟨F, vl, vp, vs, us, f1, f2, f3⟩ := h.found h0 hi
    have hcN := turn_N h0
    have X := Lib.hid (show S.err s = 0 ∧ S.found s = some i by simp [Dsk.found, c, hi])
    have HE : Hid (S.syncE s = S.chgE) := Lib.hid (by simp [Dsk.syncE, c])
    have hle := h0.see_le f1
    have hpen := (h0.nby F (List.mem_of_getElem? f1)).2
    obtain ⟨l', hl'⟩ : ∃ l', l' = S.appL l := ⟨_, rfl⟩
    have hl'l : l'.length ≤ l.length := by rw [hl']; unfold Dsk.appL; split <;> simp <;> omega
    -- what the slice is behind the cut
    have hnc : l.length ≤ n := hz.2
    have hrd : ∃ m, m = l'.length ∧ Reads w (.slice A m n) l' ∧ (0 ≤ S.chgN → min S.chgN (l.length : Int) = (m : Int)) ∧ (¬ 0 ≤ S.chgN → m = l.length) := by
      refine ⟨_, rfl, ?_, ?_, ?_⟩
      · rw [hl']
        unfold Dsk.appL
        split
        · rw [List.length_take]; exact hr0.cut _
        · exact hr0
      · intro h1
        rw [hl']
        unfold Dsk.appL
        rw [if_pos h1, List.length_take]
        omega
      · intro h1
        rw [hl']
        unfold Dsk.appL
        rw [if_neg h1]
    obtain ⟨m, hm, hrm, hm1, hm2⟩ := hrd
    have hmn : m ≤ n := by omega
    have HR := Lib.hid hrm
    have HV := Lib.hid hv
    have hAn : A = none → n = 0 := hz.1
    cases hAA : A with
    | none =>
      obtain rfl : n = 0 := hAn hAA
      obtain rfl : l = [] := List.eq_nil_of_length_eq_zero (by omega)
      obtain rfl : m = 0 := by omega
      have HD : Hid (S.appD s [] = S.chgD) := Lib.hid (by simp only [Dsk.appD, c, if_true]; rw [← hl', ← hm]; rfl)
      have H0 := Lib.hid h0
      subst hAA
      simp only [List.length_nil, Int.natCast_zero] at hm1 ⊢
      clear h h0 c f1 f2 f3 hi hl' hrm hm2 hr0 hv hz hm
      by_cases c1 : 0 ≤ S.chgN
      · have hm1 := hm1 c1
        go_enter Try.func14, Try.ntmps14
        go_wp2_with (first
          | (go_at_call 28; refine (find_any S s ad N w d ml ms vm vd H.out.blk H.out.see hs).mono ?_; rintro e w' ⟨rfl, rfl⟩; rw [X.out.1, X.out.2]; simp only [ptrV, Option.map_some])
          | (go_at_call 29; refine (change_any S _ d ml ms vm vd H.out.blk H0.out.arm).mono ?_; rintro e w1 hp; have HP := Lib.hid (chg_op H0.out H.out hp (show N ≤ N + 0 + 1 by omega) (.int .i64 S.chgE)); obtain ⟨rfl, hp2, hp3⟩ := hp; clear hp2 hp3))
        go_ret
        rw [HE.out, HD.out]
        exact HP.out
      · go_enter Try.func14, Try.ntmps14
        go_wp2_with (first
          | (go_at_call 28; refine (find_any S s ad N w d ml ms vm vd H.out.blk H.out.see hs).mono ?_; rintro e w' ⟨rfl, rfl⟩; rw [X.out.1, X.out.2]; simp only [ptrV, Option.map_some])
          | (go_at_call 29; refine (change_any S _ d ml ms vm vd H.out.blk H0.out.arm).mono ?_; rintro e w1 hp; have HP := Lib.hid (chg_op H0.out H.out hp (show N ≤ N + 0 + 1 by omega) (.int .i64 S.chgE)); obtain ⟨rfl, hp2, hp3⟩ := hp; clear hp2 hp3))
        go_ret
        rw [HE.out, HD.out]
        exact HP.out
    | some A0 =>
      subst hAA
      by_cases c2 : m = 0
      · have HD : Hid (S.appD s l = S.chgD) := Lib.hid (by simp only [Dsk.appD, c, if_true]; rw [← hl', ← hm, c2]; rfl)
        have H0 := Lib.hid h0
        clear h h0 c f1 f2 f3 hi hl' hrm hr0 hv hz hm
        subst c2
        by_cases c1 : 0 ≤ S.chgN
        · have hm1 := hm1 c1
          clear hm2
          go_enter Try.func14, Try.ntmps14
          go_wp2_with (first
            | (go_at_call 28; refine (find_any S s ad N w d ml ms vm vd H.out.blk H.out.see hs).mono ?_; rintro e w' ⟨rfl, rfl⟩; rw [X.out.1, X.out.2]; simp only [ptrV, Option.map_some])
            | (go_at_call 29; refine (change_any S _ d ml ms vm vd H.out.blk H0.out.arm).mono ?_; rintro e w1 hp; have HP := Lib.hid (chg_op H0.out H.out hp (show N ≤ N + l.length + 1 by omega) (.int .i64 S.chgE)); obtain ⟨rfl, hp2, hp3⟩ := hp; clear hp2 hp3))
          go_ret
          rw [HE.out, HD.out]
          exact HP.out
        · have hm3 := hm2 c1
          rw [← hm3]
          clear hm1 hm2 hm3
          go_enter Try.func14, Try.ntmps14
          go_wp2_with (first
            | (go_at_call 28; refine (find_any S s ad N w d ml ms vm vd H.out.blk H.out.see hs).mono ?_; rintro e w' ⟨rfl, rfl⟩; rw [X.out.1, X.out.2]; simp only [ptrV, Option.map_some])
            | (go_at_call 29; refine (change_any S _ d ml ms vm vd H.out.blk H0.out.arm).mono ?_; rintro e w1 hp; have HP := Lib.hid (chg_op H0.out H.out hp (show N ≤ N + 0 + 1 by omega) (.int .i64 S.chgE)); obtain ⟨rfl, hp2, hp3⟩ := hp; clear hp2 hp3))
          go_ret
          rw [HE.out, HD.out]
          exact HP.out
      · have HD : Hid (S.appD s l = S.chgD.turn i (·.add (.app l'))) := Lib.hid (by simp only [Dsk.appD, c, if_true]; rw [← hl', ← hm, if_neg c2]; exact onFile_some hi _)
        have H0 := Lib.hid (And.intro h0 (And.intro f1 f3))
        have HM := Lib.hid hm
        have m0 : (0 : Int) < m := by omega
        have hkb : ∀ {w1 : World}, Kept (fun k => k = d) w w1 → ∀ A n' c, Value.slice (some A0) m n = .slice (some A) n' c → ¬ A.block = d := fun _ A n' c e e2 => hv A0 _ _ rfl (by injection e with e; injection e with e; rw [e, e2, h.cd])
        have hpl : F.see.length + (Stp.app l').units ≤ 1000000000000 := by simp only [Stp.units]; omega
        have hpn : F.pen.length ≤ 1000000000000 := by omega
        have hll : l'.length ≤ 140737488355328 := by omega
        have HNN : Hid (N + (Stp.app l').units + 1 ≤ N + l.length + 1) := Lib.hid (by simp only [Stp.units]; omega)
        clear h h0 c f1 f2 f3 hi hl' hrm hr0 hv hz hm
        by_cases c1 : 0 ≤ S.chgN
        · have hm1 := hm1 c1
          clear hm2
          go_enter Try.func14, Try.ntmps14
          go_wp2_with (first
            | (go_at_call 28; refine (find_any S s ad N w d ml ms vm vd H.out.blk H.out.see hs).mono ?_; rintro e w' ⟨rfl, rfl⟩; rw [X.out.1, X.out.2]; simp only [ptrV, Option.map_some])
            | (go_at_call 29; refine (change_any S _ d ml ms vm vd H.out.blk H0.out.1.arm).mono ?_; rintro e w1 hp; have HP := Lib.hid (H.out.chg hp); have HF1 := Lib.hid (H0.out.2.2.kept hp.2.2 (fun b e1 e2 e => by subst e; rw [H.out.cd] at e2; cases e2) (Agr.refl _ _)); have HR1 := Lib.hid (HR.out.keptS hp.2.2 (hkb hp.2.2)); have HK1 := Lib.hid (kept_self H.out.cd hp.2.2); obtain ⟨rfl, hp2, hp3⟩ := hp; clear hp2 hp3)
            | (go_at_call 31; refine (clone_any _ _ l' HR1.out hll).mono ?_; rintro e w2 ⟨v2, rfl, r1, r2⟩; obtain ⟨A2, n2, rfl⟩ := own_slice r1; have R2 := Lib.hid (And.intro (app_in HF1.out r1 r2) r2); clear r1 r2)
            | (go_at_call 34; refine (add_any R2.out.1.1 _ _ R2.out.1.2 (fun n e => by cases e) hpl hpn).mono ?_; rintro e w3 hp; have HQ := Lib.hid (app_out (chgD_ok H0.out.1) HP.out (show S.chgD.fs[i]? = some F by rw [(chgD_fs S).1]; exact H0.out.2.1) HNN.out HK1.out R2.out.2 hp (.int .i64 S.chgE)); obtain ⟨rfl, -⟩ := hp))
          go_ret
          rw [HE.out, HD.out]
          exact HQ.out
        · have hm3 := hm2 c1
          have HM3 := Lib.hid hm3
          have hln : l.length ≤ 9223372036854775807 := by omega
          have l0 : (0 : Int) < l.length := by omega
          rw [hm3] at hkb HR
          clear hm1 hm2 hm3
          go_enter Try.func14, Try.ntmps14
          go_wp2_with (first
            | (go_at_call 28; refine (find_any S s ad N w d ml ms vm vd H.out.blk H.out.see hs).mono ?_; rintro e w' ⟨rfl, rfl⟩; rw [X.out.1, X.out.2]; simp only [ptrV, Option.map_some])
            | (go_at_call 29; refine (change_any S _ d ml ms vm vd H.out.blk H0.out.1.arm).mono ?_; rintro e w1 hp; have HP := Lib.hid (H.out.chg hp); have HF1 := Lib.hid (H0.out.2.2.kept hp.2.2 (fun b e1 e2 e => by subst e; rw [H.out.cd] at e2; cases e2) (Agr.refl _ _)); have HR1 := Lib.hid (HR.out.keptS hp.2.2 (hkb hp.2.2)); have HK1 := Lib.hid (kept_self H.out.cd hp.2.2); obtain ⟨rfl, hp2, hp3⟩ := hp; clear hp2 hp3)
            | (go_at_call 31; refine (clone_any _ _ l' HR1.out hll).mono ?_; rintro e w2 ⟨v2, rfl, r1, r2⟩; obtain ⟨A2, n2, rfl⟩ := own_slice r1; have R2 := Lib.hid (And.intro (app_in HF1.out r1 r2) r2); clear r1 r2)
            | (go_at_call 34; refine (add_any R2.out.1.1 _ _ R2.out.1.2 (fun n e => by cases e) hpl hpn).mono ?_; rintro e w3 hp; have HQ := Lib.hid (app_out (chgD_ok H0.out.1) HP.out (show S.chgD.fs[i]? = some F by rw [(chgD_fs S).1]; exact H0.out.2.1) HNN.out HK1.out R2.out.2 hp (.int .i64 S.chgE)); obtain ⟨rfl, -⟩ := hp))
          go_ret
          rw [HE.out, HD.out]
          exact HQ.out
  · have X := Lib.hid (show S.syncE s = S.err s ∧ S.appD s l = S ∧ S.found s = none by simp [Dsk.syncE, Dsk.appD, Dsk.found, c])
    obtain ⟨x, hx⟩ : ∃ x, x = S.err s := ⟨_, rfl⟩
    have HX := Lib.hid hx
    rw [← hx] at c
    have hb : (x != 0) = true := by simp [c]
    clear h h0 hx hr0 hz hv
    go_enter Try.func14, Try.ntmps14
    go_wp2_with (go_at_call 28; refine (find_any S s ad N w d ml ms vm vd H.out.blk H.out.see hs).mono ?_; rintro e w' ⟨rfl, rfl⟩; rw [← HX.out, X.out.2.2]; simp only [ptrV, Option.map_none])
    go_ret
    rw [X.out.1, X.out.2.1, ← HX.out]
    exact same_op hD.out (by omega) _
end Go.Proofs.Ytgohjgeplageeaa
