/- SyncNames. -/
import Derived.Test.YtgohjgeplageeaaM3
import Derived.Test.YtgohjgeplageeaaG3
namespace Go.Proofs.Ytgohjgeplageeaa
open Go Go.RowKit
set_option linter.unusedVariables false
set_option linter.unusedSimpArgs false

/-- The names that are seen last. -/
def Dsk.last (S : Dsk) : Dsk := { S with las := S.see, mvs := [] }
def Dsk.syncNE (S : Dsk) : Int := if S.off = true then 75 else S.chgE
noncomputable def Dsk.syncND (S : Dsk) : Dsk := if S.off = true then S else if S.chgN = 0 then S.chgD else S.chgD.last.sweep
theorem Dsk.Ok.last {S : Dsk} {N : Nat} (h : S.Ok N) : S.last.Ok N :=
  { h with play := rfl, okm := trivial, rl := h.rs, rm := (fun m i hm => by cases hm), nm := (fun m hm => by cases hm), nmv := Nat.zero_le _, mvf := (fun m hm => by cases hm) }
/-- The names' copy lies in a new block, which is the disk's now. -/
theorem DAt.last {w w2 : World} {C : Col} {δ d N ml ms : Nat} {vm vd : Value} {ad : Nat → Nat} {S : Dsk} (h : DAt w C δ d N ml ms vm vd ad S) (hn : NmAt w2 w.heap.size N ad S.see) (hk : Kept (fun _ => False) w w2) :
    DBlk w2 d ml ms vm vd S.off S.arm S.how S.uni ∧ DAt ((w2.setCell ⟨d, 0, none⟩ (.map (some w.heap.size))).setCell ⟨d, 1, none⟩ (.slice none 0 0)) (C.new w.heap.size (δ, 0, 1)) δ d N w.heap.size ms (.slice none 0 0) vd ad S.last ∧ Kept (fun b => b = d) w ((w2.setCell ⟨d, 0, none⟩ (.map (some w.heap.size))).setCell ⟨d, 1, none⟩ (.slice none 0 0)) := by
  have B : DBlk w2 d ml ms vm vd S.off S.arm S.how S.uni := DBlk.kept h.blk hk (fun e => e)
  have B2 := (B.s0 w.heap.size).s1 (.slice none 0 0)
  have ks : Kept (fun b => b = d) w2 ((w2.setCell ⟨d, 0, none⟩ (.map (some w.heap.size))).setCell ⟨d, 1, none⟩ (.slice none 0 0)) :=
    (Kept.setCell (S := fun k => k = d) _ _ _ rfl).trans (Kept.setCell (S := fun k => k = d) _ _ _ rfl) (fun _ _ e => e) fun _ _ e => e
  have kk := hk.trans ks (U := fun b => b = d) (fun _ _ e => e.elim) (fun _ _ e => e)
  have h2 := h.kept hk (fun _ _ e => e) (Agr.new w C (δ, 0, 1))
  have hT : ∀ j m b, (j, m) ≠ (0, 0) → C b = (δ, j, m) → ¬ b = d := by
    rintro j m b hne e rfl
    rw [h.cd] at e
    simp only [Prod.mk.injEq, true_and] at e
    exact hne (by rw [← e.1, ← e.2])
  refine ⟨B, ⟨B2, h2.cd, by simp [Col.new], h2.cs, hn.kept ks (hn.ne_blk B), h2.see.kept ks (h2.see.ne_blk B), World.ownsRow_nil _ _ _ _, (fun b hb => by cases hb), own_kept h2.md ks (fun b hb e => by subst e; exact own_ne h2.md B (by decide) hb), h2.ck, ?_⟩, kk⟩
  intro i F hi hm
  obtain ⟨vl, vp, vs, us, hF⟩ := h2.fl i F hi hm
  exact ⟨vl, vp, vs, us, hF.kept ks (fun b e1 e2 e => by subst e; rw [h2.cd] at e2; cases e2) (Agr.refl _ _)⟩
theorem sweep_op {w w1 w2 : World} {C C1 : Col} {δ d N ml ms : Nat} {vm vd : Value} {ad : Nat → Nat} {S : Dsk} {e : Ending} (h0 : S.Ok N) (hA : Agr w C C1) (hk : Kept (fun b => (C b).1 = δ) w w1) (h : DAt w1 C1 δ d N ml ms vm vd ad S) (hp : SweepPost C1 δ d N ml ms vm vd ad S w1 e w2) (r : Value) : OpPost C δ d N S.sweep r w (.returned r) w2 :=
  ⟨rfl, hk.trans hp.2.2 (fun _ _ e => e) (fun b hb e => by rw [← hA b hb, h.ck b e]), C1, hA, h0.sweep, ml, ms, vm, vd, ad, hp.2.1⟩
set_option maxRecDepth 100000 in
theorem syncN_any {w : World} {C : Col} {δ d N : Nat} {S : Dsk} (h : DskAt w C δ d N S) (hN : N ≤ 1000000000000) :
    Calls Try.prog 13 #[.pointer (some ⟨d, 0, none⟩)] w (OpPost C δ d N S.syncND (.int .i64 S.syncNE) w) := by
  have hD := Lib.hid h
  obtain ⟨h0, ml, ms, vm, vd, ad, h⟩ := h
  have q4 := (show DBlk w d ml ms vm vd S.off S.arm S.how S.uni from h.blk).c4
  have H := Lib.hid (And.intro h0 h)
  cases c : S.off with
  | true =>
    have X := Lib.hid (show S.syncNE = 75 ∧ S.syncND = S by simp [Dsk.syncNE, Dsk.syncND, c])
    rw [c] at q4
    clear h h0 c
    go_enter Try.func13, Try.ntmps13
    go_wp2_with fail
    go_ret
    rw [X.out.1, X.out.2]
    exact same_op hD.out (Nat.le_refl _) _
  | false =>
    rw [c] at q4
    have HE : Hid (S.syncNE = S.chgE) := Lib.hid (by simp [Dsk.syncNE, c])
    by_cases c1 : S.chgN = 0
    · have HD : Hid (S.syncND = S.chgD) := Lib.hid (by simp [Dsk.syncND, c, c1])
      have b1 : (S.chgN != 0) = false := by simp [c1]
      clear h h0 c c1
      go_enter Try.func13, Try.ntmps13
      go_wp2_with (go_at_call 29; refine (change_any S _ d ml ms vm vd H.out.2.blk H.out.1.arm).mono ?_; rintro e w1 hp; have HP := Lib.hid (chg_op H.out.1 H.out.2 hp (Nat.le_refl N) (.int .i64 S.chgE)); obtain ⟨rfl, hp2, hp3⟩ := hp; clear hp2 hp3)
      go_ret
      rw [HE.out, HD.out]
      exact HP.out
    · have HD : Hid (S.syncND = S.chgD.last.sweep) := Lib.hid (by simp [Dsk.syncND, c, c1])
      have b1 : (S.chgN != 0) = true := by simp [c1]
      clear h h0 c c1
      go_enter Try.func13, Try.ntmps13
      go_wp2_with (first
        | (go_at_call 29; refine (change_any S _ d ml ms vm vd H.out.2.blk H.out.1.arm).mono ?_; rintro e w1 hp; have HP := Lib.hid (H.out.2.chg hp); have HK1 := Lib.hid (kept_self H.out.2.cd hp.2.2); obtain ⟨rfl, hp2, hp3⟩ := hp; have q2 := (show DBlk w1 d ml ms vm vd _ _ _ _ from HP.out.blk).c2; clear hp2 hp3)
        | (go_at_call 32; refine (clone_nm ms N ad S.chgD.see _ HP.out.see).mono ?_; rintro e w2 ⟨rfl, r1, r2, r3⟩; obtain ⟨t1, t2, t3⟩ := HP.out.last r1 r2; have y0 := t1.c0; have z0 := t1.fr 0; have t1' := t1.s0 w1.heap.size; have y1 := t1'.c1; have z1 := t1'.fr 1; have HT := Lib.hid (And.intro t2 t3); clear r1 r2 r3 t1 t1' t2 t3)
        | (go_at_call 33; refine (sweep_any (chgD_ok H.out.1).last HT.out.1 hN).mono ?_; rintro e w3 hp; have HQ := Lib.hid (sweep_op (chgD_ok H.out.1).last (fun b hb => Agr.new w1 C (δ, 0, 1) b (Nat.lt_of_lt_of_le hb HK1.out.size)) (HK1.out.trans (kept_self HP.out.cd HT.out.2) (fun _ _ e => e) (fun _ _ e => e)) HT.out.1 hp (.int .i64 S.chgE)); obtain ⟨rfl, -⟩ := hp))
      go_ret
      rw [HE.out, HD.out]
      exact HQ.out
end Go.Proofs.Ytgohjgeplageeaa
