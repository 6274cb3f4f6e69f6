/- BatchNames returns true, and the tables of unicode/utf8 and errors' own variable that it reads hold, when the call begins, what the program's text lays in them (tied): the card. The translation is of the pruned project that the seat bears. -/
import Derived.Test.YtlcbgklealipoaaGreatDoorRBatchNames
import Derived.Test.YtlcbgklealipoaaGreatDoorTie
import Derived.Test.YtlcbgklealipoaaGreatDoorCards
import Derived.SevenTiedAt
namespace Go.Proofs.YtlcbgklealipoaaGreatDoor.batchNames
open Go

/-- The statement. -/
theorem card : Rows.BatchNamesCardSaid :=
  Claim7.holds_tied_plain_at .later [] [.data, .handle, .pinned] true (true, "4bf19f0ec381310282f57ca127a36ae9f69538a467f06503864cf0dde1b9b75a") true
    over (fun _ h => by cases h) (by kernel_rfl) (fun _ h => by cases h) batchNames_row_tie rfl ⟨rfl, rfl⟩ (by kernel_rfl) rfl
    (fun f fn hf hfn => by
      obtain rfl : f = 3 := Option.some.inj ((show Tryz.prog.funcNamed "spoor/spoorlaw05.BatchNames" = some 3 by kernel_rfl).symm.trans hf) |>.symm
      obtain rfl : fn = Tryz.f3 := (Option.some.inj (Tryz.func3.symm.trans hfn)).symm
      exact ⟨by kernel_rfl, fun j t ht => by
        rw [Tryz.params3] at ht
        simp at ht⟩)
    (by kernel_rfl)
#print axioms card
end Go.Proofs.YtlcbgklealipoaaGreatDoor.batchNames
