/- A writer's Int, Text, Raw, Len (the walks). -/
import Derived.Test.YtkefehceakcgoaaDoorV4
namespace Go.Proofs.YtkefehceakcgoaaDoor
open Go.RowKit
set_option linter.unusedVariables false
set_option linter.unusedSimpArgs false

theorem int_any (B g : Nat) (v : Value) (l : List Int) (i : Int) (w : World) (h0 : -9223372036854775808 ≤ i) (h1 : i < 9223372036854775808) (hw : WrAt 83 5 B w g v l) (hl : l.length + 10 ≤ 140737488355328) :
    Calls Tryd.prog 10 #[.pointer (some ⟨g, 0, none⟩), .int .i64 i] w (UintPost B g v (l ++ venc (zig i).toNat) w) := by
  have hz := zig_range i h0 h1
  obtain ⟨z, hz2⟩ : ∃ z : Nat, zig i = z := ⟨_, (Int.toNat_of_nonneg hz.1).symm⟩
  have hzz : (zig i).toNat = z := by omega
  rw [hzz]
  go_enter Tryd.func10, Tryd.ntmps10
  go_wp2_with fail
  refine (zig_any i w h0 h1).mono ?_
  rintro e w' ⟨rfl, rfl⟩
  rw [hz2]
  have hz64 : z < 18446744073709551616 := by omega
  clear hz2 hzz hz
  go_wp2_with fail
  refine (uint_any B g v l z w' hz64 hw hl).mono ?_
  rintro e w1 ⟨rfl, v', hst⟩
  have HS := Lib.hid hst
  clear hst
  go_wp2_with fail
  go_end0
  exact ⟨rfl, v', HS.out⟩
theorem WrAt.store {T E B g : Nat} {v v' : Value} {w w1 : World} {l l' : List Int} (h : WrAt T E B w g v l) (hTE : T ≠ E) (s : OwnStep .u8 E B v w v' l' w1) :
    w1.cell? ⟨g, 0, none⟩ = some v ∧ w1.frozen? ⟨g, 0, none⟩ = false ∧ WrStep T E B g v w v' l' (w1.setCell ⟨g, 0, none⟩ v') := by
  have hne : v.ownBlock ≠ some g := own_ne h.own h.blk hTE
  have hb1 : w1.heap[g]? = some (.cells #[v] T (0, 0)) := blk_kept s.kept h.blk hne
  have k2 : Kept (fun k => k = g) w1 (w1.setCell ⟨g, 0, none⟩ v') := Kept.setCell _ _ _ rfl
  have hne' : v'.ownBlock ≠ some g := own_ne s.own hb1 hTE
  refine ⟨blk_cell hb1 0, blk_frozen hb1 0, ⟨?_, h.base, own_kept s.own k2 fun k e e2 => hne' (e2 ▸ e)⟩, s.moved, s.kept.trans k2 (fun _ _ e => .inr e) fun _ _ e => .inl e⟩
  rw [blk_set hb1]; rfl
end Go.Proofs.YtkefehceakcgoaaDoor
