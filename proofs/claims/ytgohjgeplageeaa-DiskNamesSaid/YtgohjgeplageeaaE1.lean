/- New, change, Off, Arm. -/
import Derived.Test.YtgohjgeplageeaaD2
import Derived.WalkLawsBesides
import Derived.Outline
import Derived.Deep.LoopGhost
import Derived.WalkSpells
import Derived.Deep.QuietTactic
import Derived.BigQuiet
namespace Go.Proofs.Ytgohjgeplageeaa
open Go Go.RowKit
set_option linter.unusedVariables false
set_option linter.unusedSimpArgs false

theorem eq_b {a b : Int} (h : a = b) : (a == b) = true := by simp [h]
theorem ne_b {a b : Int} (h : a ≠ b) : (a == b) = false := by simp [h]
/-- The disk's own block. -/
def DBlk (w : World) (d ml ms : Nat) (vm vd : Value) (off : Bool) (arm how uni : Int) : Prop :=
  w.heap[d]? = some (.cells #[.map (some ml), vm, .map (some ms), vd, .bool off, .int .i64 arm, .int .i64 how, .int .i64 uni] 65 (0, 0))
section
variable {w : World} {d ml ms : Nat} {vm vd : Value} {off : Bool} {arm how uni : Int}
theorem DBlk.c0 (h : DBlk w d ml ms vm vd off arm how uni) : w.cell? ⟨d, 0, none⟩ = some (.map (some ml)) := (blk_cell h 0).trans rfl
theorem DBlk.c1 (h : DBlk w d ml ms vm vd off arm how uni) : w.cell? ⟨d, 1, none⟩ = some vm := (blk_cell h 1).trans rfl
theorem DBlk.c2 (h : DBlk w d ml ms vm vd off arm how uni) : w.cell? ⟨d, 2, none⟩ = some (.map (some ms)) := (blk_cell h 2).trans rfl
theorem DBlk.c3 (h : DBlk w d ml ms vm vd off arm how uni) : w.cell? ⟨d, 3, none⟩ = some vd := (blk_cell h 3).trans rfl
theorem DBlk.c4 (h : DBlk w d ml ms vm vd off arm how uni) : w.cell? ⟨d, 4, none⟩ = some (.bool off) := (blk_cell h 4).trans rfl
theorem DBlk.c5 (h : DBlk w d ml ms vm vd off arm how uni) : w.cell? ⟨d, 5, none⟩ = some (.int .i64 arm) := (blk_cell h 5).trans rfl
theorem DBlk.c6 (h : DBlk w d ml ms vm vd off arm how uni) : w.cell? ⟨d, 6, none⟩ = some (.int .i64 how) := (blk_cell h 6).trans rfl
theorem DBlk.c7 (h : DBlk w d ml ms vm vd off arm how uni) : w.cell? ⟨d, 7, none⟩ = some (.int .i64 uni) := (blk_cell h 7).trans rfl
theorem DBlk.fr (h : DBlk w d ml ms vm vd off arm how uni) (i : Nat) : w.frozen? ⟨d, i, none⟩ = false := blk_frozen h i
theorem DBlk.kept {w' : World} {S : Nat → Prop} (h : DBlk w d ml ms vm vd off arm how uni) (hk : Kept S w w') (hS : ¬ S d) : DBlk w' d ml ms vm vd off arm how uni := blk_kept hk h hS
theorem DBlk.s1 (h : DBlk w d ml ms vm vd off arm how uni) (v : Value) : DBlk (w.setCell ⟨d, 1, none⟩ v) d ml ms v vd off arm how uni := (blk_set h 1 v).trans rfl
theorem DBlk.s0 (h : DBlk w d ml ms vm vd off arm how uni) (m : Nat) : DBlk (w.setCell ⟨d, 0, none⟩ (.map (some m))) d m ms vm vd off arm how uni := (blk_set h 0 _).trans rfl
theorem DBlk.s2 (h : DBlk w d ml ms vm vd off arm how uni) (m : Nat) : DBlk (w.setCell ⟨d, 2, none⟩ (.map (some m))) d ml m vm vd off arm how uni := (blk_set h 2 _).trans rfl
theorem DBlk.s3 (h : DBlk w d ml ms vm vd off arm how uni) (v : Value) : DBlk (w.setCell ⟨d, 3, none⟩ v) d ml ms vm v off arm how uni := (blk_set h 3 v).trans rfl
theorem DBlk.s4 (h : DBlk w d ml ms vm vd off arm how uni) (b : Bool) : DBlk (w.setCell ⟨d, 4, none⟩ (.bool b)) d ml ms vm vd b arm how uni := (blk_set h 4 _).trans rfl
theorem DBlk.s5 (h : DBlk w d ml ms vm vd off arm how uni) (n : Int) : DBlk (w.setCell ⟨d, 5, none⟩ (.int .i64 n)) d ml ms vm vd off n how uni := (blk_set h 5 _).trans rfl
theorem DBlk.s6 (h : DBlk w d ml ms vm vd off arm how uni) (n : Int) : DBlk (w.setCell ⟨d, 6, none⟩ (.int .i64 n)) d ml ms vm vd off arm n uni := (blk_set h 6 _).trans rfl
theorem DBlk.s7 (h : DBlk w d ml ms vm vd off arm how uni) (n : Int) : DBlk (w.setCell ⟨d, 7, none⟩ (.int .i64 n)) d ml ms vm vd off arm how n := (blk_set h 7 _).trans rfl
end
def ChgPost (S : Dsk) (w : World) (d ml ms : Nat) (vm vd : Value) (e : Ending) (w' : World) : Prop :=
  e = .returned (.tuple #[.int .i64 S.chgN, .int .i64 S.chgE]) ∧ DBlk w' d ml ms vm vd S.chgD.off S.chgD.arm S.chgD.how S.chgD.uni ∧ Kept (fun k => k = d) w w'
theorem chgN0 {S : Dsk} (h : S.arm = 0) : S.chgN = -1 ∧ S.chgE = 0 ∧ S.chgD = S := by simp [Dsk.chgN, Dsk.chgE, Dsk.chgD, h]
theorem chgN1 {S : Dsk} (h : S.arm ≠ 0) (h1 : 0 < S.arm - 1) : S.chgN = -1 ∧ S.chgE = 0 ∧ S.chgD = { S with arm := S.arm - 1 } := by simp only [Dsk.chgN, Dsk.chgE, Dsk.chgD, h, h1, if_false, if_true]; simp
theorem chgN2 {S : Dsk} (h : S.arm ≠ 0) (h1 : ¬ 0 < S.arm - 1) (h2 : S.how = 0) : S.chgN = S.uni ∧ S.chgE = 75 ∧ S.chgD = { S with arm := S.arm - 1, off := true } := by simp only [Dsk.chgN, Dsk.chgE, Dsk.chgD, h, h1, h2, if_false, if_true]; simp
theorem chgN3 {S : Dsk} (h : S.arm ≠ 0) (h1 : ¬ 0 < S.arm - 1) (h2 : S.how ≠ 0) : S.chgN = S.uni ∧ S.chgE = 76 ∧ S.chgD = { S with arm := S.arm - 1 } := by simp only [Dsk.chgN, Dsk.chgE, Dsk.chgD, h, h1, h2, if_false]; simp
theorem change_any (S : Dsk) (w : World) (d ml ms : Nat) (vm vd : Value) (h : DBlk w d ml ms vm vd S.off S.arm S.how S.uni) (ha : 0 ≤ S.arm ∧ S.arm < 9223372036854775808) :
    Calls Try.prog 29 #[.pointer (some ⟨d, 0, none⟩)] w (ChgPost S w d ml ms vm vd) := by
  have q4 := h.c4; have q5 := h.c5; have q6 := h.c6; have q7 := h.c7
  have f4 := h.fr 4; have f5 := h.fr 5
  obtain ⟨a0, a1⟩ := ha
  by_cases c0 : S.arm = 0
  · obtain ⟨e1, e2, e3⟩ := chgN0 c0
    have b0 := eq_b c0
    have H := Lib.hid h
    have X := Lib.hid (And.intro e1 (And.intro e2 e3))
    clear h e1 e2 e3 q4 q6 q7 f4 f5 a0 a1 c0
    go_enter Try.func29, Try.ntmps29
    go_wp2_with fail
    go_ret2
    obtain ⟨e1, e2, e3⟩ := X.out
    unfold ChgPost
    rw [e1, e2, e3]
    exact ⟨rfl, H.out, .refl _ _⟩
  · have b0 := ne_b c0
    have k5 : Kept (fun k => k = d) w (w.setCell ⟨d, 5, none⟩ (.int .i64 (S.arm - 1))) := .setCell _ _ _ rfl
    have H5 := h.s5 (S.arm - 1)
    have hw : IntKind.i64.wrap (S.arm - 1) = S.arm - 1 := by rw [IntKind.wrap_i64]; omega
    by_cases c1 : 0 < S.arm - 1
    · obtain ⟨e1, e2, e3⟩ := chgN1 c0 c1
      have X := Lib.hid (And.intro e1 (And.intro e2 (And.intro e3 (And.intro H5 k5))))
      have b1 : (1 < S.arm) = True := by simp; omega
      clear h e1 e2 e3 H5 k5 q4 q6 q7 f4 a0 a1 c0
      go_enter Try.func29, Try.ntmps29
      go_wp2_with fail
      go_ret2
      obtain ⟨e1, e2, e3, e4, e5⟩ := X.out
      unfold ChgPost
      rw [e1, e2, e3]
      exact ⟨rfl, e4, e5⟩
    · have b1 : (1 < S.arm) = False := by simp; omega
      have r6 := H5.c6; have r7 := H5.c7; have r4 := H5.c4; have r5 := H5.c5; have g4 := H5.fr 4
      by_cases c2 : S.how = 0
      · obtain ⟨e1, e2, e3⟩ := chgN2 c0 c1 c2
        have H4 := H5.s4 true
        have k4 := k5.trans (Kept.setCell (S := fun k => k = d) (w.setCell ⟨d, 5, none⟩ (.int .i64 (S.arm - 1))) ⟨d, 4, none⟩ (.bool true) rfl) (U := fun k => k = d) (fun _ _ e => e) (fun _ _ e => e)
        have s7 := H4.c7
        have b2 := eq_b c2
        have X := Lib.hid (And.intro e1 (And.intro e2 (And.intro e3 (And.intro H4 k4))))
        clear h e1 e2 e3 H5 k5 H4 k4 q4 q6 q7 a0 a1 c0 c1 c2
        go_enter Try.func29, Try.ntmps29
        go_wp2_with fail
        go_ret2
        obtain ⟨e1, e2, e3, e4, e5⟩ := X.out
        unfold ChgPost
        rw [e1, e2, e3]
        exact ⟨rfl, e4, e5⟩
      · obtain ⟨e1, e2, e3⟩ := chgN3 c0 c1 c2
        have b2 := ne_b c2
        have X := Lib.hid (And.intro e1 (And.intro e2 (And.intro e3 (And.intro H5 k5))))
        clear h e1 e2 e3 H5 k5 q4 q6 q7 a0 a1 c0 c1 c2
        go_enter Try.func29, Try.ntmps29
        go_wp2_with fail
        go_ret2
        obtain ⟨e1, e2, e3, e4, e5⟩ := X.out
        unfold ChgPost
        rw [e1, e2, e3]
        exact ⟨rfl, e4, e5⟩
end Go.Proofs.Ytgohjgeplageeaa
