/- BatchWhole returns true of any spans, any number and any bytes, and the tables of unicode/utf8 and errors' own variable that it reads hold, when the call begins, what the program's text lays in them (tied): the card. The translation is of the pruned project that the seat bears. -/
import Derived.Test.YtlcbgklealipoaaGreatDoorRBatchWhole
import Derived.Test.YtlcbgklealipoaaGreatDoorTie
import Derived.Test.YtlcbgklealipoaaGreatDoorCards
import Derived.SevenTiedAt
namespace Go.Proofs.YtlcbgklealipoaaGreatDoor.batchWhole
open Go

/-- The statement. -/
theorem card : Rows.BatchWholeCardSaid :=
  Claim7.holds_tied_plain_at .later [] [.data, .handle, .pinned] true (true, "4bf19f0ec381310282f57ca127a36ae9f69538a467f06503864cf0dde1b9b75a") true
    over (fun _ h => by cases h) (by kernel_rfl) (fun _ h => by cases h) batchWhole_row_tie rfl ⟨rfl, rfl⟩ (by kernel_rfl) rfl
    (fun f fn hf hfn => by
      obtain rfl : f = 9 := Option.some.inj ((show Tryz.prog.funcNamed "spoor/spoorlaw05.BatchWhole" = some 9 by kernel_rfl).symm.trans hf) |>.symm
      obtain rfl : fn = Tryz.f9 := (Option.some.inj (Tryz.func9.symm.trans hfn)).symm
      exact ⟨by kernel_rfl, fun j t ht => by
        rw [Tryz.params9] at ht
        have hm : t ∈ [25, 3, 26] := by
          have h := Array.mem_of_getElem? ht
          simpa using h
        have hall : ([25, 3, 26].all fun u => !Tryz.prog.wantsStandIn u) = true := by kernel_rfl
        exact (show Tryz.prog.wantsStandIn t = false by simpa using List.all_eq_true.1 hall t hm)⟩)
    (by kernel_rfl)
#print axioms card
end Go.Proofs.YtlcbgklealipoaaGreatDoor.batchWhole
