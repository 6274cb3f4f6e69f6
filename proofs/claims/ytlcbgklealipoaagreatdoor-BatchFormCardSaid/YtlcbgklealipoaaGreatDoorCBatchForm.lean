/- BatchForm returns true of any bytes, and the tables of unicode/utf8 and errors' own variable that it reads hold, when the call begins, what the program's text lays in them (tied): the card. The translation is of the pruned project that the seat bears. -/
import Derived.Test.YtlcbgklealipoaaGreatDoorRBatchForm
import Derived.Test.YtlcbgklealipoaaGreatDoorTie
import Derived.Test.YtlcbgklealipoaaGreatDoorCards
import Derived.SevenTiedAt
namespace Go.Proofs.YtlcbgklealipoaaGreatDoor.batchForm
open Go

/-- The statement. -/
theorem card : Rows.BatchFormCardSaid :=
  Claim7.holds_tied_plain_at .later [] [.data, .handle, .pinned] true (true, "4bf19f0ec381310282f57ca127a36ae9f69538a467f06503864cf0dde1b9b75a") true
    over (fun _ h => by cases h) (by kernel_rfl) (fun _ h => by cases h) batchForm_row_tie rfl ⟨rfl, rfl⟩ (by kernel_rfl) rfl
    (fun f fn hf hfn => by
      obtain rfl : f = 5 := Option.some.inj ((show Tryz.prog.funcNamed "spoor/spoorlaw05.BatchForm" = some 5 by kernel_rfl).symm.trans hf) |>.symm
      obtain rfl : fn = Tryz.f5 := (Option.some.inj (Tryz.func5.symm.trans hfn)).symm
      exact ⟨by kernel_rfl, fun j t ht => by
        rw [Tryz.params5] at ht
        have hm : t ∈ [26] := by
          have h := Array.mem_of_getElem? ht
          simp at h
          simp [h]
        have hall : ([26].all fun u => !Tryz.prog.wantsStandIn u) = true := by kernel_rfl
        exact (show Tryz.prog.wantsStandIn t = false by simpa using List.all_eq_true.1 hall t hm)⟩)
    (by kernel_rfl)
#print axioms card
end Go.Proofs.YtlcbgklealipoaaGreatDoor.batchForm
