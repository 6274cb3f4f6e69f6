/- Sync. -/
import Derived.Test.YtgohjgeplageeaaG2
namespace Go.Proofs.Ytgohjgeplageeaa
open Go Go.RowKit
set_option linter.unusedVariables false
set_option linter.unusedSimpArgs false

theorem same_op {w : World} {C : Col} {δ d N N' : Nat} {S : Dsk} (h : DskAt w C δ d N S) (hN : N ≤ N') (r : Value) : OpPost C δ d N' S r w (.returned r) w := ⟨rfl, .refl _ _, C, .refl _ _, h.mono hN⟩
/-- Behind change, and nothing more. -/
theorem chg_op {w w' : World} {C : Col} {δ d N N' ml ms : Nat} {vm vd : Value} {ad : Nat → Nat} {S : Dsk} (h0 : S.Ok N) (h : DAt w C δ d N ml ms vm vd ad S) {e : Ending} (hp : ChgPost S w d ml ms vm vd e w') (hN : N ≤ N') (r : Value) : OpPost C δ d N' S.chgD r w (.returned r) w' :=
  ⟨rfl, kept_self h.cd hp.2.2, C, .refl _ _, DskAt.mono ⟨chgD_ok h0, ml, ms, vm, vd, ad, h.chg hp⟩ hN⟩
theorem onFile_some {S : Dsk} {s : ByteArray} {i : Nat} (hi : S.see s = some i) (g : Fil → Fil) : S.chgD.onFile s g = S.chgD.turn i g := by
  unfold Dsk.onFile
  rw [(chgD_fs S).2.2.1, hi]
theorem sync_any {w : World} {C : Col} {δ d N : Nat} {S : Dsk} (h : DskAt w C δ d N S) (s : ByteArray) (hs : s.size ≤ 9223372036854775807) (hN : N ≤ 1000000000000) :
    Calls Try.prog 12 #[.pointer (some ⟨d, 0, none⟩), .string s] w (OpPost C δ d N (S.syncD s) (.int .i64 (S.syncE s)) w) := by
  have hD := Lib.hid h
  obtain ⟨h0, ml, ms, vm, vd, ad, h⟩ := h
  have H := Lib.hid h
  by_cases c : S.err s = 0
  · obtain ⟨i, hi⟩ := Option.isSome_iff_exists.1 (err0 c).2.2
    obtain ⟨F, vl, vp, vs, us, f1, f2, f3⟩ := h.found h0 hi
    have hcN := turn_N h0
    obtain ⟨A, n, rfl⟩ := f3.see.slice
    have X := Lib.hid (show S.err s = 0 ∧ S.found s = some i by simp [Dsk.found, c, hi])
    have HE : Hid (S.syncE s = S.chgE) := Lib.hid (by simp [Dsk.syncE, c])
    by_cases c1 : S.chgN = 0
    · have HD : Hid (S.syncD s = S.chgD) := Lib.hid (by simp [Dsk.syncD, c, c1])
      have b1 : (S.chgN != 0) = false := by simp [c1]
      have H0 := Lib.hid h0
      clear h h0 c f1 f2 f3 hi c1
      go_enter Try.func12, Try.ntmps12
      go_wp2_with (first
        | (go_at_call 28; refine (find_any S s ad N w d ml ms vm vd H.out.blk H.out.see hs).mono ?_; rintro e w' ⟨rfl, rfl⟩; rw [X.out.1, X.out.2]; simp only [ptrV, Option.map_some])
        | (go_at_call 29; refine (change_any S _ d ml ms vm vd H.out.blk H0.out.arm).mono ?_; rintro e w1 hp; have HP := Lib.hid (chg_op H0.out H.out hp (Nat.le_refl _) (.int .i64 S.chgE)); obtain ⟨rfl, hp2, hp3⟩ := hp; clear hp2 hp3))
      go_ret
      rw [HE.out, HD.out]
      exact HP.out
    · have HD : Hid (S.syncD s = S.chgD.turn i fun F => Fil.settle F.see) := Lib.hid (by simp only [Dsk.syncD, c, c1, if_true, if_false]; exact onFile_some hi _)
      have b1 : (S.chgN != 0) = true := by simp [c1]
      have hok := (chgD_ok h0).settle (i := i) (F := F) (by rw [(chgD_fs S).1]; exact f1)
      have hle := h0.see_le f1
      have hl : F.see.length ≤ 140737488355328 := by omega
      have H0 := Lib.hid (And.intro h0 (And.intro hok (And.intro f1 f3)))
      clear h h0 c f1 f2 f3 hi c1 hok
      go_enter Try.func12, Try.ntmps12
      go_wp2_with (first
        | (go_at_call 28; refine (find_any S s ad N w d ml ms vm vd H.out.blk H.out.see hs).mono ?_; rintro e w' ⟨rfl, rfl⟩; rw [X.out.1, X.out.2]; simp only [ptrV, Option.map_some])
        | (go_at_call 29; refine (change_any S _ d ml ms vm vd H.out.blk H0.out.1.arm).mono ?_; rintro e w1 hp; have HP := Lib.hid (H.out.chg hp); have hF1 := H0.out.2.2.2.kept hp.2.2 (fun b e1 e2 e => by subst e; rw [H.out.cd] at e2; cases e2) (Agr.refl _ _); have q2 := (show FBlk w1 (ad i) vl vp _ from hF1.blk).c2; have HF1 := Lib.hid hF1; have HK1 := Lib.hid (kept_self H.out.cd hp.2.2); obtain ⟨rfl, hp2, hp3⟩ := hp; clear hp2 hp3 hF1)
        | (go_at_call 31; refine (clone_any _ _ F.see HF1.out.see.reads hl).mono ?_; rintro e w2 ⟨v, rfl, r1, r2⟩; obtain ⟨A2, n2, rfl⟩ := own_slice r1; have R2 := Lib.hid (And.intro r1 r2); clear r1 r2)
        | (go_at_call 30; refine (settle_any (ad i) vl vp _ _ F.see _ (FBlk.kept HF1.out.blk R2.out.2 (fun e => e)) (Lies.of_own R2.out.1).reads hl).mono ?_; rintro e w3 hp; have HQ := Lib.hid (HF1.out.settled R2.out.1 R2.out.2 hp); obtain ⟨v3, rfl, -⟩ := hp))
      go_ret
      obtain ⟨v', C', g1, g2, g3⟩ := HQ.out
      rw [HE.out, HD.out]
      have hk : Kept (fun b => (C b).1 = δ ∧ (C b).2.1 = i + 1) w1 w3 := g3.mono (fun b _ e => by subst e; rw [HF1.out.ca]; exact ⟨rfl, rfl⟩)
      refine ⟨rfl, HK1.out.trans hk (fun _ _ e => e) (fun _ _ e => e.1), C', fun b hb => g1 b (Nat.lt_of_lt_of_le hb HK1.out.size), H0.out.2.1, ml, ms, vm, vd, ad, ?_⟩
      exact HP.out.turnFile (F := F) (by rw [(chgD_fs S).1]; exact H0.out.2.2.1) hk g1 g2
  · have X := Lib.hid (show S.syncE s = S.err s ∧ S.syncD s = S ∧ S.found s = none by simp [Dsk.syncE, Dsk.syncD, Dsk.found, c])
    obtain ⟨x, hx⟩ : ∃ x, x = S.err s := ⟨_, rfl⟩
    have HX := Lib.hid hx
    rw [← hx] at c
    have hb : (x != 0) = true := by simp [c]
    clear h h0 hx
    go_enter Try.func12, Try.ntmps12
    go_wp2_with (go_at_call 28; refine (find_any S s ad N w d ml ms vm vd H.out.blk H.out.see hs).mono ?_; rintro e w' ⟨rfl, rfl⟩; rw [← HX.out, X.out.2.2]; simp only [ptrV, Option.map_none])
    go_ret
    rw [X.out.1, X.out.2.1, ← HX.out]
    exact same_op hD.out (Nat.le_refl _) _
end Go.Proofs.Ytgohjgeplageeaa
