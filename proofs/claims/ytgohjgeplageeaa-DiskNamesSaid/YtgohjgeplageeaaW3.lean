/- DiskNames: the errors and the limits have their numbers. -/
import Derived.Test.YtgohjgeplageeaaW2
namespace Go.Proofs.Ytgohjgeplageeaa
open Go Go.RowKit
set_option linter.unusedVariables false
set_option linter.unusedSimpArgs false

def DiskTrue (w : World) (e : Ending) (w' : World) : Prop := e = .returned (.bool true) ∧ Kept (fun _ => False) w w'
theorem diskNames_any (w : World) : Calls Try.prog 3 #[] w (DiskTrue w) := by
  go_enter Try.func3, Try.ntmps3
  go_wp2_with (go_at_call 7; refine (awake_any _).mono ?_; rintro e w1 ⟨rfl, k1⟩)
  go_ret
  exact ⟨rfl, k1⟩
end Go.Proofs.Ytgohjgeplageeaa
