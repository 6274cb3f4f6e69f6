/- maps.Clone of names. -/
import Derived.Test.YtgohjgeplageeaaP1
import Derived.Test.YtgohjgeplageeaaF4
import Derived.Shelf.SlMaps.Clone
namespace Go.Proofs.Ytgohjgeplageeaa
open Go Go.RowKit
set_option linter.unusedVariables false
set_option linter.unusedSimpArgs false

def CloneNm (b N : Nat) (ad : Nat → Nat) (f : Nm) (w : World) (e : Ending) (w' : World) : Prop := e = .returned (.map (some w.heap.size)) ∧ NmAt w' w.heap.size N ad f ∧ Kept (fun _ => False) w w' ∧ w'.heap.size = w.heap.size + 1
set_option maxRecDepth 100000 in
theorem clone_nm (b N : Nat) (ad : Nat → Nat) (f : Nm) (w : World) (h : NmAt w b N ad f) : Calls Try.prog 32 #[.map (some b)] w (CloneNm b N ad f w) := by
  obtain ⟨n, D, h0, ⟨es, clock, hb, F, hs, hD⟩, hI⟩ := h
  have hq := fun w => run_eql_map_nil_sl (P := Try.prog) w 61 _ _ (some b) Try.underlying61
  have hend : Hid (CloneNm b N ad f w (.returned (.map (some w.heap.size))) (w.alloc (.map es clock))) := Lib.hid ⟨rfl, ⟨n, D, h0, ⟨es, clock, (MapKept.heap_alloc w _).1, F, hs, hD⟩, hI⟩, .alloc _ _ _, by simp⟩
  go_enter Try.func32, Try.ntmps32
  go_wp2
  have hx := run_callFunc_extern Try.func49 (by kernel_rfl) (by kernel_rfl) (by kernel_rfl) (e := Extern.MapsClone.clone) (by kernel_rfl) #[.iface 61 (.map (some b))] w
  rw [hx, run_maps_clone_sl w 61 hb]
  simp only [Result.andThen]
  rw [Oper.upon_value]
  go_wp2
  rw [run_typeAssert_map_sl _ 61 20 _ _ _ Try.underlying61]
  simp only [Result.andThen]
  rw [Oper.upon_value]
  go_wp2
  go_ret
  exact hend.out
end Go.Proofs.Ytgohjgeplageeaa
