/- WireOne returns true of any bytes and asks, and the tables of unicode/utf8 and errors' own variable that it reads hold, when the call begins, what the program's text lays in them (tied): the card. The translation is of the pruned project that the seat bears. -/
import Derived.Test.YtkefehceakcgoaaDoorRWireOne
import Derived.Test.YtkefehceakcgoaaDoorTie
import Derived.Test.YtkefehceakcgoaaDoorCards
import Derived.SevenTiedAt
namespace Go.Proofs.YtkefehceakcgoaaDoor.wireOne
open Go

/-- The statement. -/
theorem card : Rows.WireOneCardSaid :=
  Claim7.holds_tied_plain_at .later [] [.data, .handle, .pinned] true (true, "bdafd668d0d861d5e9411d7d923ea6f1df29c2cbb35f81e7b2f7bb54b386b246") true
    over (fun _ h => by cases h) (by kernel_rfl) (fun _ h => by cases h) wireOne_row_tie rfl ⟨rfl, rfl⟩ (by kernel_rfl) rfl
    (fun f fn hf hfn => by
      obtain rfl : f = 4 := Option.some.inj ((show Tryd.prog.funcNamed "spoor/spoorlaw01.WireOne" = some 4 by kernel_rfl).symm.trans hf) |>.symm
      obtain rfl : fn = Tryd.f4 := (Option.some.inj (Tryd.func4.symm.trans hfn)).symm
      exact ⟨by kernel_rfl, fun j t ht => by
        rw [Tryd.params4] at ht
        have hm : t ∈ [9, 45] := by simpa using Array.mem_of_getElem? ht
        have hall : ([9, 45].all fun u => !Tryd.prog.wantsStandIn u) = true := by kernel_rfl
        exact (show Tryd.prog.wantsStandIn t = false by simpa using List.all_eq_true.1 hall t hm)⟩)
    (by kernel_rfl)
#print axioms card
end Go.Proofs.YtkefehceakcgoaaDoor.wireOne
