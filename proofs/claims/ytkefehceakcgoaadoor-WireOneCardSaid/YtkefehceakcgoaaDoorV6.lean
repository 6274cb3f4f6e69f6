/- A writer's Raw (the walk). -/
import Derived.Test.YtkefehceakcgoaaDoorV5
namespace Go.Proofs.YtkefehceakcgoaaDoor
open Go.RowKit
set_option linter.unusedVariables false
set_option linter.unusedSimpArgs false

set_option maxHeartbeats 1000000 in
set_option maxRecDepth 100000 in
theorem raw_any (B g : Nat) (v y : Value) (l p : List Int) (w : World) (hr : Reads w y p) (hw : WrAt 83 5 B w g v l) (hl : l.length + p.length ≤ 140737488355328) :
    Calls Tryd.prog 13 #[.pointer (some ⟨g, 0, none⟩), y] w (UintPost B g v (l ++ p) w) := by
  have hBw : B ≤ w.heap.size := Nat.le_trans hw.base (Nat.le_of_lt (blk_lt hw.blk))
  obtain ⟨i0, hi, hz0, hz1, hz2⟩ := info_parts Tryd.info5
  have hc : w.cell? ⟨g, 0, none⟩ = some v := blk_cell hw.blk 0
  have hown := hw.own
  obtain ⟨A, c, rfl⟩ := own_slice hown
  have HW := Lib.hid hw
  clear hw
  go_enter Tryd.func13, Tryd.ntmps13
  go_wp2_with (at_builtin; refine wpList_append_reads rfl _ _ 35 rfl B 5 i0 (.int .u8 0) 1 Tryd.underlying35 hi hz0 hz1 hz2 rfl (.slice A l.length c) y l p rfl rfl hr hown ?c2 ?c3 hBw ?_)
  case c2 => unfold maxLen; omega
  case c3 => omega
  rintro v2 w1 hst
  obtain ⟨hc1, hf1, hst2⟩ := HW.out.store (by decide) hst
  obtain ⟨A2, c2, rfl⟩ := own_slice hst.own
  rw [List.length_append] at hst2
  have HS := Lib.hid hst2
  clear hst hst2 hc hown hr
  go_wp2_with fail
  go_end0
  exact ⟨rfl, _, HS.out⟩
end Go.Proofs.YtkefehceakcgoaaDoor
