/- settle: bytes last, nothing is pending. -/
import Derived.Test.YtgohjgeplageeaaF1
namespace Go.Proofs.Ytgohjgeplageeaa
open Go Go.RowKit
set_option linter.unusedVariables false
set_option linter.unusedSimpArgs false

def FBlk (w : World) (a : Nat) (vl vp vs : Value) : Prop := w.heap[a]? = some (.cells #[vl, vp, vs] 72 (0, 0))
section
variable {w : World} {a : Nat} {vl vp vs : Value}
theorem FBlk.c0 (h : FBlk w a vl vp vs) : w.cell? ⟨a, 0, none⟩ = some vl := (blk_cell h 0).trans rfl
theorem FBlk.c1 (h : FBlk w a vl vp vs) : w.cell? ⟨a, 1, none⟩ = some vp := (blk_cell h 1).trans rfl
theorem FBlk.c2 (h : FBlk w a vl vp vs) : w.cell? ⟨a, 2, none⟩ = some vs := (blk_cell h 2).trans rfl
theorem FBlk.fr (h : FBlk w a vl vp vs) (i : Nat) : w.frozen? ⟨a, i, none⟩ = false := blk_frozen h i
theorem FBlk.kept {w' : World} {S : Nat → Prop} (h : FBlk w a vl vp vs) (hk : Kept S w w') (hS : ¬ S a) : FBlk w' a vl vp vs := blk_kept hk h hS
theorem FBlk.s0 (h : FBlk w a vl vp vs) (v : Value) : FBlk (w.setCell ⟨a, 0, none⟩ v) a v vp vs := (blk_set h 0 v).trans rfl
theorem FBlk.s1 (h : FBlk w a vl vp vs) (v : Value) : FBlk (w.setCell ⟨a, 1, none⟩ v) a vl v vs := (blk_set h 1 v).trans rfl
theorem FBlk.s2 (h : FBlk w a vl vp vs) (v : Value) : FBlk (w.setCell ⟨a, 2, none⟩ v) a vl vp v := (blk_set h 2 v).trans rfl
end
def SettlePost (a : Nat) (v : Value) (l : List Int) (w : World) (e : Ending) (w' : World) : Prop :=
  ∃ v', e = .returned (.tuple #[]) ∧ FBlk w' a v (.slice none 0 0) v' ∧ w'.ownsRow w.heap.size 5 1 v' l.length (nums .u8 l) ∧ Kept (fun k => k = a) w w'
theorem settle_any (a : Nat) (vl vp vs v : Value) (l : List Int) (w : World) (hb : FBlk w a vl vp vs) (hr : Reads w v l) (hl : l.length ≤ 140737488355328) :
    Calls Try.prog 30 #[.pointer (some ⟨a, 0, none⟩), v] w (SettlePost a v l w) := by
  obtain ⟨A, c, hv, hr2⟩ := hr
  have H := Lib.hid (And.intro hb (show Reads w v l from ⟨A, c, hv, hr2⟩))
  clear hb hr2
  subst hv
  go_enter Try.func30, Try.ntmps30
  go_wp2_with (go_at_call 31; refine (clone_any _ _ l H.out.2 hl).mono ?_; rintro e w1 ⟨v', rfl, r1, r2⟩; obtain ⟨A', c', rfl⟩ := own_slice r1; have b1 := H.out.1.kept r2 (fun e => e); have q0 := b1.fr 0; have q1 := b1.fr 1; have q2 := b1.fr 2; have p0 := b1.c0; have p1 := b1.c1; have p2 := b1.c2; have B1 := Lib.hid (And.intro b1 (And.intro r1 r2)); clear b1 r1 r2)
  obtain ⟨b1, r1, r2⟩ := B1.out
  go_end0
  have b2 := ((b1.s0 (.slice A l.length c)).s1 (.slice none 0 0)).s2 (.slice A' l.length c')
  have k2 : Kept (fun k => k = a) w1 (((w1.setCell ⟨a, 0, none⟩ (.slice A l.length c)).setCell ⟨a, 1, none⟩ (.slice none 0 0)).setCell ⟨a, 2, none⟩ (.slice A' l.length c')) :=
    ((Kept.setCell (S := fun k => k = a) _ _ _ rfl).trans (Kept.setCell (S := fun k => k = a) _ _ _ rfl) (U := fun k => k = a) (fun _ _ e => e) fun _ _ e => e).trans (Kept.setCell (S := fun k => k = a) _ _ _ rfl) (fun _ _ e => e) fun _ _ e => e
  exact ⟨_, rfl, b2, own_kept r1 k2 (fun k hk e => by have := (r1.lt k hk).1; have := blk_lt H.out.1; omega), r2.trans k2 (fun _ _ e => e.elim) fun _ _ e => e⟩
end Go.Proofs.Ytgohjgeplageeaa
